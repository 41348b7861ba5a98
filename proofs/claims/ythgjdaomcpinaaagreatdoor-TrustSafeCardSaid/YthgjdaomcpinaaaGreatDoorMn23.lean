/- TAddW, THts, TFirst, Shelf10, Shelf11. -/
import Derived.Test.YthgjdaomcpinaaaGreatDoorProg
import Derived.Shelf.Slices.Reverse
import Derived.Shelf.Slices.SearchI
import Derived.Test.YthgjdaomcpinaaaGreatDoorMn11
import Derived.Test.YthgjdaomcpinaaaGreatDoorMn13
import Derived.Test.YthgjdaomcpinaaaGreatDoorMn22
set_option linter.unnecessarySimpa false

/- trust.Store.Add: some are there. The program's walk. Printed by mktadd.py. -/
set_option linter.unusedSimpArgs false
set_option linter.unusedVariables false
namespace Go.Proofs.YthgjdaomcpinaaaGreatDoor
open Go.RowKit Go.WideMaps Go.Maps Go.Sort Go.Shelf Pl

theorem SRow.at_lt {w : World} {base k : Nat} {v : Value} {l : List Bs} (h : SRow w base v l) (hk : v.ownBlock = some k) : k < w.heap.size := by
  rcases h.cells with ⟨rfl, _⟩ | ⟨g, cap, rfl, _, h2, _⟩
  · cases hk
  · cases hk; exact h2
theorem may_at {l : List Tr} (h : mayR (batchT l) = true) {i : Nat} {t : Tr} (hi : l[i]? = some t) : (writT t).length ≤ 65536 := by
  unfold mayR at h
  simp only [Bool.and_eq_true, List.all_eq_true, decide_eq_true_eq] at h
  have := h.1.2 (1 :: writT t) (List.mem_map.2 ⟨t, List.mem_of_getElem? hi, rfl⟩)
  simp at this
  omega
theorem TRow.low {w : World} {base c : Nat} {v : Value} {t : Tr} (h : TRow w base v t) (hc : c ≤ base) : TRow w c v t := by
  obtain ⟨sk, ms, h1, h2, h3⟩ := h
  exact ⟨sk, ms, h1, h2.low hc, h3.low hc⟩
theorem TRow.drew {w : World} {base : Nat} {v : Value} {t : Tr} (h : TRow w base v t) : TRow w.drew base v t := by
  obtain ⟨sk, ms, h1, h2, h3⟩ := h
  exact ⟨sk, ms, h1, h2.drew, h3.kept (fun k _ => rfl)⟩
theorem TrM.drew {w : World} {base m : Nat} {T : List (Int × Tr)} (h : TrM w base m T) : TrM w.drew base m T := by
  obtain ⟨D, ho, hD⟩ := h
  exact ⟨D, ho.drew, hD.has, fun e he => (by obtain ⟨v, h1, h2⟩ := hD.val e he; exact ⟨v, h1, h2.drew⟩), hD.nodup, hD.size⟩
theorem MRow.at_lt {w : World} {base k : Nat} {v : Value} {l : List (Bs × Int)} (h : MRow w base v l) (hk : v.ownBlock = some k) : k < w.heap.size := by
  rcases h.cells with ⟨rfl, _⟩ | ⟨g, cap, rfl, _, h2, _⟩
  · cases hk
  · cases hk; exact h2
theorem TRow.modl {w w' : World} {base : Nat} {l : List Nat} {v : Value} {t : Tr} (h : TRow w base v t) (hm : Mod l w w') (hl : ∀ x ∈ l, x < base) : TRow w' base v t := by
  obtain ⟨sk, ms, h1, h2, h3⟩ := h
  exact ⟨sk, ms, h1, h2.kept (fun k hk => hm.block k (h2.at_lt hk) (fun hi => absurd (hl k hi) (Nat.not_lt.2 (h2.own k hk)))), h3.kept (fun k hk => hm.block k (h3.at_lt hk) (fun hi => absurd (hl k hi) (Nat.not_lt.2 (h3.own k hk))))⟩
theorem TrM.modl {w w' : World} {base m : Nat} {l : List Nat} {T : List (Int × Tr)} (h : TrM w base m T) (hm : Mod l w w') (hl : ∀ x ∈ l, x < base) (hn : m ∉ l) : TrM w' base m T := by
  obtain ⟨D, ho, hD⟩ := h
  exact ⟨D, tmap_at ho (hm.block m ho.lt hn), hD.has, fun e he => (by obtain ⟨v, h1, h2⟩ := hD.val e he; exact ⟨v, h1, h2.modl hm hl⟩), hD.nodup, hD.size⟩
theorem Blk.notmap {w : World} {b m : Nat} {cs : Array Value} {es : Array MapEntry} {c : Nat} (h : Blk w b cs) (hc : cs[0]?.isSome = true) (hm : w.heap[m]? = some (.map es c)) : m ≠ b := by
  intro e
  subst e
  have h1 := h.cell 0
  unfold World.cell? at h1
  rw [hm] at h1
  rw [← h1] at hc
  cases hc
theorem wp_mapT {o : Oper} {a : Act} {w : World} {K : Act → World → Prop} {Q : Exit → Act → World → Prop} (m x v : Operand) (hop : o.op = Op.mapUpdate 120 m x v)
    {base b : Nat} {T : List (Int × Tr)} (hm : a.eval m = .map (some b)) (hM : TrM w base b T) (hl : T.length < 1000000) (k : Int) (hk : -9223372036854775808 ≤ k ∧ k ≤ 9223372036854775807) {t : Tr} {vv : Value} (hx : a.eval x = .int .i64 (k)) (hv : a.eval v = vv) (hr : TRow w base vv t)
    (hK : ∀ w', TrM w' base b (putK T k t) → w.grownBy w' (some b) → K (a.put o.dst undef) w') : o.wp Tryz.prog a w K Q := by
  obtain ⟨w', hrun, r1, r2⟩ := hM.update hl k hk t vv hr
  unfold Oper.wp
  simp [execOp, hop, hm, hx, hv, hrun, Result.andThen]
  exact hK w' r1 r2
set_option maxRecDepth 100000 in
set_option maxHeartbeats 8000000 in
theorem tadd_any (av : List Nat) (base p j q m : Nat) (span : Int) (d : Dk) (T : List (Int × Tr)) (v : Value) (l : List Tr) (hn : l.length ≤ 1000) (hT : T.length ≤ 10000) (hm : mayR (batchT l) = true) (hf : -9223372036854775808 ≤ d.fuse ∧ d.fuse ≤ 9223372036854775807) (hrm : 0 ≤ d.room ∧ d.room ≤ 1048576) (hsl : d.s.length ≤ 1048576) (hcl : ∀ t ∈ l, t.head.skips.length ≤ 1000000 ∧ t.set.length ≤ 1000000 ∧ -9223372036854775808 ≤ t.head.height ∧ t.head.height ≤ 9223372036854775807) (w : World) (hk : KT w) (h : DkV w av p d) (hj : Blk w j #[.pointer (some ⟨p, 0, none⟩), .bool false]) (hpj : p ≠ j) (hja : j ∈ av) (hqa : q ∈ av) (hav : ∀ x ∈ av, x < w.heap.size) (hpb : p < base) (hjb : j < base) (hqb : q < base) (hpq : p ≠ q) (hqj : q ≠ j) (hbase : base ≤ w.heap.size) (B : Blk w q #[.map (some m), .int .i64 (span), .pointer (some ⟨j, 0, none⟩)]) (hM : TrM w base m T) (hv : TL w v l) :
    Calls Tryz.prog 24 #[.pointer (some ⟨q, 0, none⟩), v] w fun e w' => ∃ m', e = .returned (.int .i64 ((addD d T l).2.2.1)) ∧ Blk w' q #[.map (some m'), .int .i64 (span), .pointer (some ⟨j, 0, none⟩)] ∧ TrM w' base m' (addD d T l).2.1 ∧ DkV w' av p (addD d T l).1 ∧ Blk w' j #[.pointer (some ⟨p, 0, none⟩), .bool (addD d T l).2.2.2] ∧ Mod [p, j, q] w w' := by
  have hpa := h.lt
  have HAV := Lib.hid hav
  obtain ⟨a, cap, rfl⟩ := hv.form
  have HN := Lib.hid hn
  have HCL := Lib.hid hcl
  have HM := Lib.hid hm
  have HV := Lib.hid hv
  have HJ := Lib.hid hj
  have HD := Lib.hid h
  have HTM := Lib.hid hM
  have HK := Lib.hid hk
  have HB0 := Lib.hid B
  have HBASE := Lib.hid hbase
  clear hcl hm hv hj h hM hk B hbase hav
  go_enter Tryz.func24, Tryz.ntmps24
  go_wp2_with fail
  go_loopw [5, 18] (fun s5 s18 wr => ∃ i : Nat, i ≤ l.length ∧ s18 = .int .i64 (i) ∧ SRow wr w.heap.size s5 (batchT (l.take i)) ∧ Hid ((l.take i).all fineT = true) ∧ Below w.heap.size w wr) (fun _ s18 _ => l.length - (intOf s18).toNat)
  case atStart => exact ⟨0, by omega, rfl, SRow.nil _ _, Lib.hid (by simp), Below.refl _ _⟩
  case round =>
    obtain ⟨i, hi, rfl, hS, HF, hb⟩ := hrel
    obtain ⟨sa, sc, rfl⟩ := hS.form
    by_cases hlt : i < l.length
    · have hbd : 0 ≤ (i : Int) ∧ (i : Int) < (l.length : Int) := by omega
      obtain ⟨t, ht⟩ : ∃ t, l[i]? = some t := ⟨l[i], List.getElem?_eq_getElem hlt⟩
      obtain ⟨g, off, sk, ms, rfl, hg, hR, h1, h2, p1, p2⟩ := HV.out.at i t ht
      have HSN := Lib.hid (batch_snoc l i t ht)
      have HFS := Lib.hid (fine_stop l i t ht)
      have HFY := Lib.hid (fine_step l i t ht)
      have HBL := Lib.hid (batch_len (l.take i))
      have hwl := may_at HM.out ht
      clear ht
      have hbl : (batchT (l.take i)).length ≤ 1000 := by rw [HBL.out, List.length_take]; omega
      generalize hBT : batchT (l.take i) = BT at *
      obtain ⟨⟨a1, a2, a3, lb, pa, st, rc, tx, me, ne, K⟩, L, ta⟩ := t
      have hR2 := rangeAt_keep hR hg hb
      obtain ⟨ka, kc, rfl⟩ := h1.form
      obtain ⟨ma, mc, rfl⟩ := h2.form
      unfold tcs at hR2
      simp only at hR2 h1 h2
      have q1 := fun W (hbx : Below w.heap.size w W) => tr_encode a1 a2 a3 lb pa st rc tx me ne K _ L _ ta W (h1.keep hbx) (h2.keep hbx) (HK.out.keep hbx)
      have hsr := hb.size
      clear hR h1 h2 p1 p2 hg hBT
      go_wp2_with (first | (refine wpList_rowLoadAt row_trust rfl (.tmp 20) rfl rfl rfl hR2 ?_) | (refine wpList_rowStore row_trust rfl rfl (.tmp 7) (.tmp 21) rfl rfl rfl (vs := [.int .i64 (a1), .int .i64 (a2), .int .i64 (a3), .bool lb, .string ⟨List.toArray (pa)⟩, .string ⟨List.toArray (st)⟩, .string ⟨List.toArray (rc)⟩, .string ⟨List.toArray (tx)⟩, .string ⟨List.toArray (me)⟩, .string ⟨List.toArray (ne)⟩, .slice ka K.length kc, .slice ma L.length mc, .int .i64 (ta)]) rfl (by simp [Value.oneCell']) (us := [.int .i64 (0), .int .i64 (0), .int .i64 (0), .bool false, .string ⟨List.toArray ([])⟩, .string ⟨List.toArray ([])⟩, .string ⟨List.toArray ([])⟩, .string ⟨List.toArray ([])⟩, .string ⟨List.toArray ([])⟩, .string ⟨List.toArray ([])⟩, .slice none 0 0, .slice none 0 0, .int .i64 (0)]) rfl (Blk.new' (by simp)) ?_; intro w2 N2 m2) | (refine wpList_rowLoad row_trust rfl (.tmp 7) rfl rfl (vs := [.int .i64 (a1), .int .i64 (a2), .int .i64 (a3), .bool lb, .string ⟨List.toArray (pa)⟩, .string ⟨List.toArray (st)⟩, .string ⟨List.toArray (rc)⟩, .string ⟨List.toArray (tx)⟩, .string ⟨List.toArray (me)⟩, .string ⟨List.toArray (ne)⟩, .slice ka K.length kc, .slice ma L.length mc, .int .i64 (ta)]) rfl N2 ?_))
      have hb0 := Below.allocS hb (.cells #[.int .i64 (0), .int .i64 (0), .int .i64 (0), .bool false, .string ⟨List.toArray ([])⟩, .string ⟨List.toArray ([])⟩, .string ⟨List.toArray ([])⟩, .string ⟨List.toArray ([])⟩, .string ⟨List.toArray ([])⟩, .string ⟨List.toArray ([])⟩, .slice none 0 0, .slice none 0 0, .int .i64 (0)] 27)
      have hb2 := Below.mod hb0 m2 hb0.size (by simp; omega)
      have hS2 : SRow w2 w.heap.size (.slice sa BT.length sc) BT := (hS.keep (Below.allocS (Below.refl _ _) _)).kept (fun k hk => m2.block k (by have := hS.at_lt hk; simp; omega) (by have := hS.at_lt hk; simp; omega))
      refine (q1 _ hb2).mono ?_
      rintro e w3 ⟨rfl, hbx⟩
      have hb3 := hb2.trans (hbx.mono hb2.size)
      have hS3 := hS2.keep hbx
      have hs3 := hb3.size
      clear q1 hS hS2 hb hb0 hb2 hR2 N2 m2 hbx
      cases hfb : fineT ⟨⟨a1, a2, a3, lb, pa, st, rc, tx, me, ne, K⟩, L, ta⟩
      · rw [encTR_no hfb]
        have hbad := HFS.out hfb
        clear hfb
        go_wp2_with fail
        all_goals (go_ret; rw [addD_bad hbad]; exact ⟨m, rfl, HB0.out.keep hb3, HTM.out.keep hb3, HD.out.keep hb3, HJ.out.keep hb3, Mod.of_below hb3⟩)
      · rw [encTR_yes hfb]
        have HFY2 := Lib.hid (HFY.out hfb HF.out)
        clear hfb
        generalize writT ⟨⟨a1, a2, a3, lb, pa, st, rc, tx, me, ne, K⟩, L, ta⟩ = X at *
        have k1 : ¬ 9223372036854775807 < 1 + X.length := by omega
        have hS4 : SS (w3.alloc (.cells #[.string ⟨List.toArray (1 :: X)⟩] 9)) (.slice (some ⟨w3.heap.size, 0, none⟩) 1 1) [1 :: X] := SS.of (l := [1 :: X]) (by simp) (by unfold maxLen; omega) (by simp) (ssrc1 _ _ _)
        go_wp2_with (first | (at_builtin; refine wpList_appS rfl (.tmp 30) (.tmp 33) rfl w.heap.size _ BT rfl (hS3.alloc _) w3.heap.size 0 1 1 [1 :: X] rfl rfl (ssrc1 _ _ _) (by omega) (by simp; omega) ?_; rintro v5 w5 hS5 hb5))
        refine ⟨⟨i + 1, by omega, by go_num, by rw [HSN.out]; exact hS5, HFY2, (Below.allocS hb3 _).trans hb5⟩, by simp [intOf]; omega⟩
    · have hil : i = l.length := by omega
      subst hil
      rw [List.take_length] at hS HF
      have q2 := tclone_any base m T wr (HTM.out.keep hb)
      have B1 := HB0.out.keep hb
      obtain ⟨b1, b2, b3⟩ := id B1
      go_wp2_with fail
      refine q2.mono ?_
      rintro e w1 ⟨rfl, hM1, _, hbx⟩
      obtain ⟨m', hm'⟩ : ∃ m', m' = wr.heap.size := ⟨_, rfl⟩
      rw [← hm'] at hM1 ⊢
      have hmw : w.heap.size ≤ m' := by have := hb.size; omega
      have hS1 := hS.keep hbx
      have hb1 := hb.trans (hbx.mono hb.size)
      have hml := hM1.lt
      clear q2 hm' hS hb hbx B1 b1 b2 b3
      have HBL := Lib.hid (batch_len l)
      generalize hBT : batchT l = BT at *
      obtain ⟨ba, bc, hbv⟩ := hS1.form
      clear hi hlt
      go_wp2_with fail
      go_loopw [43] (fun s43 wr => ∃ (i : Nat) (Ti : List (Int × Tr)), i ≤ l.length ∧ s43 = .int .i64 (i) ∧ TrM wr base m' Ti ∧ Hid (addsT l T = addsT (l.drop i) Ti) ∧ Ti.length ≤ T.length + i ∧ SRow wr w.heap.size (.slice sa BT.length sc) BT ∧ Below w.heap.size w wr) (fun s43 _ => l.length - (intOf s43).toNat)
      case atStart => exact ⟨0, T, by omega, rfl, hM1, Lib.hid (by rw [List.drop_zero]), by omega, hS1, hb1⟩
      case round =>
        obtain ⟨i, Ti, hi, rfl, hMr, HA, hTl, hSr, hbr⟩ := hrel
        clear hM1 hS1 hb1 hml
        by_cases hlt : i < l.length
        · have hbd : 0 ≤ (i : Int) ∧ (i : Int) < (l.length : Int) := by omega
          obtain ⟨t, ht⟩ : ∃ t, l[i]? = some t := ⟨l[i], List.getElem?_eq_getElem hlt⟩
          obtain ⟨g, off, sk, ms, rfl, hg, hR, h1, h2, p1, p2⟩ := HV.out.at i t ht
          obtain ⟨l1, l2, l3⟩ := HCL.out t (List.mem_of_getElem? ht)
          have HDR := Lib.hid (dropT l i t ht)
          clear ht
          obtain ⟨⟨a1, a2, a3, lb, pa, st, rc, tx, me, ne, K⟩, L, ta⟩ := t
          have hR2 := rangeAt_keep hR hg hbr
          obtain ⟨ka, kc, rfl⟩ := h1.form
          obtain ⟨ma, mc, rfl⟩ := h2.form
          unfold tcs at hR2
          simp only at hR2 h1 h2 l1 l2 l3
          have hsr := hbr.size
          have q4 := fun W (hbx : Below w.heap.size w W) => tr_own a1 a2 a3 lb pa st rc tx me ne K L ta _ _ W (h1.keep hbx) (h2.keep hbx) p1 p2 l1 l2
          clear hR p1 p2 hg
          by_cases hin : a1 ∈ hts Ti
          · obtain ⟨⟨⟨d1, d2, d3, eb, pb, su, rd, ty, mf, nf, K2⟩, L2, tb⟩, ho⟩ : ∃ o, (a1, o) ∈ Ti := by
              obtain ⟨e, he, e1⟩ := List.mem_map.1 hin
              exact ⟨e.2, by rw [← e1]; exact he⟩
            have hcc := clashT_there (t := ⟨⟨a1, a2, a3, lb, pa, st, rc, tx, me, ne, K⟩, L, ta⟩) hMr.nodup ho
            have q3 := fun (u v : Value) (W : World) (hu : TV W u ⟨⟨d1, d2, d3, eb, pb, su, rd, ty, mf, nf, K2⟩, L2, tb⟩) (hv : TV W v ⟨⟨a1, a2, a3, lb, pa, st, rc, tx, me, ne, K⟩, L, ta⟩) => tr_same u v _ _ W hu hv
            simp only at hcc q3
            generalize decide ((encHR (⟨d1, d2, d3, eb, pb, su, rd, ty, mf, nf, K2⟩ : Hd)).1 = (encHR (⟨a1, a2, a3, lb, pa, st, rc, tx, me, ne, K⟩ : Hd)).1) = sm at *
            have HCC := Lib.hid hcc
            clear hcc
            go_wp2_with (first | (refine wpList_rowLoadAt row_trust rfl (.tmp 45) rfl rfl rfl hR2 ?_) | (refine wpList_rowStore row_trust rfl rfl (.tmp 12) (.tmp 46) rfl rfl rfl (vs := [.int .i64 (a1), .int .i64 (a2), .int .i64 (a3), .bool lb, .string ⟨List.toArray (pa)⟩, .string ⟨List.toArray (st)⟩, .string ⟨List.toArray (rc)⟩, .string ⟨List.toArray (tx)⟩, .string ⟨List.toArray (me)⟩, .string ⟨List.toArray (ne)⟩, .slice ka K.length kc, .slice ma L.length mc, .int .i64 (ta)]) rfl (by simp [Value.oneCell']) (us := [.int .i64 (0), .int .i64 (0), .int .i64 (0), .bool false, .string ⟨List.toArray ([])⟩, .string ⟨List.toArray ([])⟩, .string ⟨List.toArray ([])⟩, .string ⟨List.toArray ([])⟩, .string ⟨List.toArray ([])⟩, .string ⟨List.toArray ([])⟩, .slice none 0 0, .slice none 0 0, .int .i64 (0)]) rfl (Blk.new' (by simp)) ?_; intro w2 N2 m2; obtain ⟨b1, b2, b3⟩ := id N2; have hbn := Below.mod (Below.allocS (Below.refl wr.heap.size wr) (.cells #[.int .i64 (0), .int .i64 (0), .int .i64 (0), .bool false, .string ⟨List.toArray ([])⟩, .string ⟨List.toArray ([])⟩, .string ⟨List.toArray ([])⟩, .string ⟨List.toArray ([])⟩, .string ⟨List.toArray ([])⟩, .string ⟨List.toArray ([])⟩, .slice none 0 0, .slice none 0 0, .int .i64 (0)] 27)) m2 (by simp) (by simp); obtain ⟨v, hrun, hov, _⟩ := (hMr.keep hbn).look a1 l3; rw [decide_eq_true hin] at hrun; obtain ⟨sk2, ms2, rfl, r1, r2⟩ := hov _ ho; simp only at hrun r1 r2; obtain ⟨va, vc, rfl⟩ := r1.form; obtain ⟨ua, uc, rfl⟩ := r2.form) | (refine wpList_rowStore row_trust rfl rfl (.tmp 13) (.tmp 53) rfl rfl rfl (vs := [.int .i64 (d1), .int .i64 (d2), .int .i64 (d3), .bool eb, .string ⟨List.toArray (pb)⟩, .string ⟨List.toArray (su)⟩, .string ⟨List.toArray (rd)⟩, .string ⟨List.toArray (ty)⟩, .string ⟨List.toArray (mf)⟩, .string ⟨List.toArray (nf)⟩, .slice va K2.length vc, .slice ua L2.length uc, .int .i64 (tb)]) rfl (by simp [Value.oneCell']) (us := [.int .i64 (0), .int .i64 (0), .int .i64 (0), .bool false, .string ⟨List.toArray ([])⟩, .string ⟨List.toArray ([])⟩, .string ⟨List.toArray ([])⟩, .string ⟨List.toArray ([])⟩, .string ⟨List.toArray ([])⟩, .string ⟨List.toArray ([])⟩, .slice none 0 0, .slice none 0 0, .int .i64 (0)]) rfl (Blk.new' (by simp)) ?_; intro w4 N4 m4; have N5 := (N2.alloc (.cells #[.int .i64 (0), .int .i64 (0), .int .i64 (0), .bool false, .string ⟨List.toArray ([])⟩, .string ⟨List.toArray ([])⟩, .string ⟨List.toArray ([])⟩, .string ⟨List.toArray ([])⟩, .string ⟨List.toArray ([])⟩, .string ⟨List.toArray ([])⟩, .slice none 0 0, .slice none 0 0, .int .i64 (0)] 27)).mod m4 (by simp; omega)) | (refine wpList_rowLoadG row_trust ?hw (.tmp 13) rfl rfl (vs := [.int .i64 (d1), .int .i64 (d2), .int .i64 (d3), .bool eb, .string ⟨List.toArray (pb)⟩, .string ⟨List.toArray (su)⟩, .string ⟨List.toArray (rd)⟩, .string ⟨List.toArray (ty)⟩, .string ⟨List.toArray (mf)⟩, .string ⟨List.toArray (nf)⟩, .slice va K2.length vc, .slice ua L2.length uc, .int .i64 (tb)]) rfl N4 ?_; (case hw => rfl)) | (refine wpList_rowLoadG row_trust ?hw (.tmp 12) rfl rfl (vs := [.int .i64 (a1), .int .i64 (a2), .int .i64 (a3), .bool lb, .string ⟨List.toArray (pa)⟩, .string ⟨List.toArray (st)⟩, .string ⟨List.toArray (rc)⟩, .string ⟨List.toArray (tx)⟩, .string ⟨List.toArray (me)⟩, .string ⟨List.toArray (ne)⟩, .slice ka K.length kc, .slice ma L.length mc, .int .i64 (ta)]) rfl N5 ?_; (case hw => rfl)))
            have hbm := Below.mod (Below.allocS (Below.refl w2.heap.size w2) (.cells #[.int .i64 (0), .int .i64 (0), .int .i64 (0), .bool false, .string ⟨List.toArray ([])⟩, .string ⟨List.toArray ([])⟩, .string ⟨List.toArray ([])⟩, .string ⟨List.toArray ([])⟩, .string ⟨List.toArray ([])⟩, .string ⟨List.toArray ([])⟩, .slice none 0 0, .slice none 0 0, .int .i64 (0)] 27)) m4 (by simp) (by simp)
            have hbq := hbn.trans (hbm.mono hbn.size)
            have hb4 := hbr.trans (hbq.mono hbr.size)
            refine (q3 _ _ w4 ⟨_, _, rfl, (r1.keep hbm).ss, (r2.keep hbm).ms⟩ ⟨_, _, rfl, h1.keep hb4, h2.keep hb4⟩).mono ?_
            rintro e w5 ⟨rfl, hbx⟩
            have hM5 := (hMr.keep hbq).keep hbx
            have hS5 := (hSr.keep hbq).keep hbx
            have hb5 := hb4.trans (hbx.mono hb4.size)
            have hs5 := hb5.size
            have hs6 := hbq.size
            have hs7 := hbx.size
            have hbs := HBASE.out
            have hml := hMr.lt
            replace N5 := N5.keep hbx
            clear hrun hMr hSr hbn hbm hbq N2 N4 m2 m4 b1 b2 b3 hR2 hbr hbx hb4 hov r1 r2 q3 h1 h2
            cases sm
            · have HNO : Hid (addsT l T = none) := Lib.hid (by rw [HA.out, HDR.out]; exact addsT_clash HCC.out)
              have hMo := HTM.out.keep hb5
              have hBo := HB0.out.keep hb5
              have hDo := HD.out.keep hb5
              have hJo := HJ.out.keep hb5
              clear q4
              go_wp2_with fail
              all_goals (go_ret; rw [addD_there HF.out HNO.out]; exact ⟨m, rfl, hBo, hMo, hDo, hJo, Mod.of_below hb5⟩)
            · have HA2 : Hid (addsT l T = addsT (l.drop (i + 1)) (putK Ti a1 ⟨⟨a1, a2, a3, lb, pa, st, rc, tx, me, ne, K⟩, L, ta⟩)) := Lib.hid (by rw [HA.out, HDR.out]; exact addsT_step HCC.out)
              go_wp2_with fail
              refine wpH_startM [m'] (by kernel_rfl) (fun hS => ?_)
              (refine wpH_pure 0 ?_ (oi := { dst := some 62, op := Op.move (Operand.tmp 10), type := 120, pos := "store.go:90", after := #[], guard := none }) rfl (by kernel_rfl) (by kernel_rfl) (by kernel_rfl) (by rfl) hS (fun _ _ _ h => h) ?_ ?_; rotate_left; focus (intro w; go_simp; try with_reducible rfl))
              try simp only [Act.put, List.setIfInBounds_toArray, List.set_cons_zero, List.set_cons_succ]
              (refine wpH_pure 1 ?_ (oi := { dst := some 63, op := Op.fieldAddr 27 (Operand.tmp 12) 0, type := 0, pos := "store.go:90", after := #[], guard := none }) rfl (by kernel_rfl) (by kernel_rfl) (by kernel_rfl) (by rfl) hS (fun _ _ _ h => h) ?_ ?_; rotate_left; focus (intro w; go_simp; try with_reducible rfl))
              try simp only [Act.put, List.setIfInBounds_toArray, List.set_cons_zero, List.set_cons_succ]
              (refine wpH_pure 2 ?_ (oi := { dst := some 64, op := Op.fieldAddr 24 (Operand.tmp 63) 0, type := 0, pos := "store.go:90", after := #[{ on := 1, ground := Ground.data }], guard := none }) rfl (by kernel_rfl) (by kernel_rfl) (by kernel_rfl) (by rfl) hS (fun _ _ _ h => h) ?_ ?_; rotate_left; focus (intro w; go_simp; try with_reducible rfl))
              try simp only [Act.put, List.setIfInBounds_toArray, List.set_cons_zero, List.set_cons_succ]
              refine wpH_load 3 (.int .i64 (a1)) (oi := { dst := some 65, op := Op.load 3 (Operand.tmp 64), type := 3, pos := "store.go:90", after := #[{ on := 2, ground := Ground.data }], guard := none }) rfl (by kernel_rfl) (by kernel_rfl) (by kernel_rfl) (by rfl) hS (fun _ _ _ h => h) (fun w hb2 => (by have c := (N5.mod hb2 (by simp; omega)).cell 0; go_simp; try rfl)) ?_
              try simp only [Act.put, List.setIfInBounds_toArray, List.set_cons_zero, List.set_cons_succ]
              refine wpH_row row_trust 4 (oi := { dst := some 66, op := Op.load 27 (Operand.tmp 12), type := 27, pos := "store.go:90", after := #[], guard := none }) rfl (by kernel_rfl) (by kernel_rfl) (by kernel_rfl) (by rfl) hS (vs := [.int .i64 (a1), .int .i64 (a2), .int .i64 (a3), .bool lb, .string ⟨List.toArray (pa)⟩, .string ⟨List.toArray (st)⟩, .string ⟨List.toArray (rc)⟩, .string ⟨List.toArray (tx)⟩, .string ⟨List.toArray (me)⟩, .string ⟨List.toArray (ne)⟩, .slice ka K.length kc, .slice ma L.length mc, .int .i64 (ta)]) (fun _ _ _ h => h) (.tmp 12) rfl rfl (rfl) (fun w hb2 => N5.mod hb2 (by simp; omega)) ?_
              try simp only [Act.put, List.setIfInBounds_toArray, List.set_cons_zero, List.set_cons_succ]
              refine wpH_call 5 (oi := { dst := some 67, op := Op.call { callee := Callee.value (Operand.func 72), args := #[Operand.tmp 66], argTypes := #[27] }, type := 27, pos := "store.go:90", after := #[{ on := 4, ground := Ground.data }], guard := none }) rfl (by kernel_rfl) (by rfl) (q4 _ (Below.mod hb5 hS hs5 (by simp; omega))) ?_ ?_
              · (go_simp; try rfl)
              rintro e w' ⟨v7, rfl, hvr, hbx⟩
              refine ⟨_, rfl, hS.trans (Mod.of_below hbx), ?_⟩
              replace hS := hS.trans (Mod.of_below hbx)
              try simp only [Act.put, List.setIfInBounds_toArray, List.set_cons_zero, List.set_cons_succ]
              refine wpH_op 6 (oi := { dst := none, op := Op.mapUpdate 120 (Operand.tmp 62) (Operand.tmp 65) (Operand.tmp 67), type := 0, pos := "store.go:90", after := #[{ on := 0, ground := Ground.data }, { on := 3, ground := Ground.data }, { on := 5, ground := Ground.data }, { on := 5, ground := Ground.chain }, { on := 0, ground := Ground.phase }, { on := 1, ground := Ground.phase }, { on := 2, ground := Ground.phase }, { on := 3, ground := Ground.phase }, { on := 4, ground := Ground.phase }, { on := 5, ground := Ground.phase }], guard := none }) rfl (by kernel_rfl) (by rfl) ?_
              have hM6 := hM5.drew.keep hbx
              have hS6 := hS5.drew.keep hbx
              obtain ⟨es6, c6, hblk⟩ := hM6.block
              refine wp_mapT (.tmp 62) (.tmp 65) (.tmp 67) rfl rfl hM6 (by omega) a1 l3 rfl rfl (hvr.low (show base ≤ w5.heap.size from by omega)) ?_
              rintro w7 hM7 hg7
              have hS7 := hS6.grown hblk hg7
              have m7 : Mod [m'] _ w7 := hS.trans (grown_mod hg7)
              refine ⟨m7, ?_⟩
              try simp only [Act.put, List.setIfInBounds_toArray, List.set_cons_zero, List.set_cons_succ]
              refine wpAnyH_done (by kernel_rfl) ?_ _
              have hb7 := Below.mod hb5 m7 hs5 (by simp; omega)
              clear hM6 hS6 hblk hg7 hbx hS q4 hM5 hS5 N5 hb5
              go_wp2_with fail
              exact ⟨⟨i + 1, putK Ti a1 ⟨⟨a1, a2, a3, lb, pa, st, rc, tx, me, ne, K⟩, L, ta⟩, by omega, by go_num, hM7, HA2, by have := putK_len Ti a1 ⟨⟨a1, a2, a3, lb, pa, st, rc, tx, me, ne, K⟩, L, ta⟩; omega, hS7, hb7⟩, by simp [intOf]; omega⟩
          · go_wp2_with (first | (refine wpList_rowLoadAt row_trust rfl (.tmp 45) rfl rfl rfl hR2 ?_) | (refine wpList_rowStore row_trust rfl rfl (.tmp 12) (.tmp 46) rfl rfl rfl (vs := [.int .i64 (a1), .int .i64 (a2), .int .i64 (a3), .bool lb, .string ⟨List.toArray (pa)⟩, .string ⟨List.toArray (st)⟩, .string ⟨List.toArray (rc)⟩, .string ⟨List.toArray (tx)⟩, .string ⟨List.toArray (me)⟩, .string ⟨List.toArray (ne)⟩, .slice ka K.length kc, .slice ma L.length mc, .int .i64 (ta)]) rfl (by simp [Value.oneCell']) (us := [.int .i64 (0), .int .i64 (0), .int .i64 (0), .bool false, .string ⟨List.toArray ([])⟩, .string ⟨List.toArray ([])⟩, .string ⟨List.toArray ([])⟩, .string ⟨List.toArray ([])⟩, .string ⟨List.toArray ([])⟩, .string ⟨List.toArray ([])⟩, .slice none 0 0, .slice none 0 0, .int .i64 (0)]) rfl (Blk.new' (by simp)) ?_; intro w2 N2 m2; obtain ⟨b1, b2, b3⟩ := id N2; have hbn := Below.mod (Below.allocS (Below.refl wr.heap.size wr) (.cells #[.int .i64 (0), .int .i64 (0), .int .i64 (0), .bool false, .string ⟨List.toArray ([])⟩, .string ⟨List.toArray ([])⟩, .string ⟨List.toArray ([])⟩, .string ⟨List.toArray ([])⟩, .string ⟨List.toArray ([])⟩, .string ⟨List.toArray ([])⟩, .slice none 0 0, .slice none 0 0, .int .i64 (0)] 27)) m2 (by simp) (by simp); obtain ⟨v, hrun, _, hnv⟩ := (hMr.keep hbn).look a1 l3; rw [decide_eq_false hin] at hrun; obtain rfl := hnv hin) | (refine wpList_rowStore row_trust rfl rfl (.tmp 13) (.tmp 53) rfl rfl rfl (vs := [.int .i64 (0), .int .i64 (0), .int .i64 (0), .bool false, .string ⟨List.toArray ([])⟩, .string ⟨List.toArray ([])⟩, .string ⟨List.toArray ([])⟩, .string ⟨List.toArray ([])⟩, .string ⟨List.toArray ([])⟩, .string ⟨List.toArray ([])⟩, .slice none 0 0, .slice none 0 0, .int .i64 (0)]) rfl (by simp [Value.oneCell']) (us := [.int .i64 (0), .int .i64 (0), .int .i64 (0), .bool false, .string ⟨List.toArray ([])⟩, .string ⟨List.toArray ([])⟩, .string ⟨List.toArray ([])⟩, .string ⟨List.toArray ([])⟩, .string ⟨List.toArray ([])⟩, .string ⟨List.toArray ([])⟩, .slice none 0 0, .slice none 0 0, .int .i64 (0)]) rfl (Blk.new' (by simp)) ?_; intro w4 N4 m4))
            have HA2 : Hid (addsT l T = addsT (l.drop (i + 1)) (putK Ti a1 ⟨⟨a1, a2, a3, lb, pa, st, rc, tx, me, ne, K⟩, L, ta⟩)) := Lib.hid (by rw [HA.out, HDR.out]; exact addsT_step (clashT_new hin))
            have N5 := (N2.alloc (.cells #[.int .i64 (0), .int .i64 (0), .int .i64 (0), .bool false, .string ⟨List.toArray ([])⟩, .string ⟨List.toArray ([])⟩, .string ⟨List.toArray ([])⟩, .string ⟨List.toArray ([])⟩, .string ⟨List.toArray ([])⟩, .string ⟨List.toArray ([])⟩, .slice none 0 0, .slice none 0 0, .int .i64 (0)] 27)).mod m4 (by simp; omega)
            have hbm := Below.mod (Below.allocS (Below.refl w2.heap.size w2) (.cells #[.int .i64 (0), .int .i64 (0), .int .i64 (0), .bool false, .string ⟨List.toArray ([])⟩, .string ⟨List.toArray ([])⟩, .string ⟨List.toArray ([])⟩, .string ⟨List.toArray ([])⟩, .string ⟨List.toArray ([])⟩, .string ⟨List.toArray ([])⟩, .slice none 0 0, .slice none 0 0, .int .i64 (0)] 27)) m4 (by simp) (by simp)
            have hbq := hbn.trans (hbm.mono hbn.size)
            have hM5 := hMr.keep hbq
            have hS5 := hSr.keep hbq
            have hb5 := hbr.trans (hbq.mono hbr.size)
            have hs5 := hb5.size
            have hs6 := hbq.size
            have hbs := HBASE.out
            have hml := hMr.lt
            clear hrun hMr hSr hbn hbm hbq N2 N4 m2 m4 b1 b2 b3 hR2 hnv hbr
            refine wpH_startM [m'] (by kernel_rfl) (fun hS => ?_)
            (refine wpH_pure 0 ?_ (oi := { dst := some 62, op := Op.move (Operand.tmp 10), type := 120, pos := "store.go:90", after := #[], guard := none }) rfl (by kernel_rfl) (by kernel_rfl) (by kernel_rfl) (by rfl) hS (fun _ _ _ h => h) ?_ ?_; rotate_left; focus (intro w; go_simp; try with_reducible rfl))
            try simp only [Act.put, List.setIfInBounds_toArray, List.set_cons_zero, List.set_cons_succ]
            (refine wpH_pure 1 ?_ (oi := { dst := some 63, op := Op.fieldAddr 27 (Operand.tmp 12) 0, type := 0, pos := "store.go:90", after := #[], guard := none }) rfl (by kernel_rfl) (by kernel_rfl) (by kernel_rfl) (by rfl) hS (fun _ _ _ h => h) ?_ ?_; rotate_left; focus (intro w; go_simp; try with_reducible rfl))
            try simp only [Act.put, List.setIfInBounds_toArray, List.set_cons_zero, List.set_cons_succ]
            (refine wpH_pure 2 ?_ (oi := { dst := some 64, op := Op.fieldAddr 24 (Operand.tmp 63) 0, type := 0, pos := "store.go:90", after := #[{ on := 1, ground := Ground.data }], guard := none }) rfl (by kernel_rfl) (by kernel_rfl) (by kernel_rfl) (by rfl) hS (fun _ _ _ h => h) ?_ ?_; rotate_left; focus (intro w; go_simp; try with_reducible rfl))
            try simp only [Act.put, List.setIfInBounds_toArray, List.set_cons_zero, List.set_cons_succ]
            refine wpH_load 3 (.int .i64 (a1)) (oi := { dst := some 65, op := Op.load 3 (Operand.tmp 64), type := 3, pos := "store.go:90", after := #[{ on := 2, ground := Ground.data }], guard := none }) rfl (by kernel_rfl) (by kernel_rfl) (by kernel_rfl) (by rfl) hS (fun _ _ _ h => h) (fun w hb2 => (by have c := (N5.mod hb2 (by simp; omega)).cell 0; go_simp; try rfl)) ?_
            try simp only [Act.put, List.setIfInBounds_toArray, List.set_cons_zero, List.set_cons_succ]
            refine wpH_row row_trust 4 (oi := { dst := some 66, op := Op.load 27 (Operand.tmp 12), type := 27, pos := "store.go:90", after := #[], guard := none }) rfl (by kernel_rfl) (by kernel_rfl) (by kernel_rfl) (by rfl) hS (vs := [.int .i64 (a1), .int .i64 (a2), .int .i64 (a3), .bool lb, .string ⟨List.toArray (pa)⟩, .string ⟨List.toArray (st)⟩, .string ⟨List.toArray (rc)⟩, .string ⟨List.toArray (tx)⟩, .string ⟨List.toArray (me)⟩, .string ⟨List.toArray (ne)⟩, .slice ka K.length kc, .slice ma L.length mc, .int .i64 (ta)]) (fun _ _ _ h => h) (.tmp 12) rfl rfl (rfl) (fun w hb2 => N5.mod hb2 (by simp; omega)) ?_
            try simp only [Act.put, List.setIfInBounds_toArray, List.set_cons_zero, List.set_cons_succ]
            refine wpH_call 5 (oi := { dst := some 67, op := Op.call { callee := Callee.value (Operand.func 72), args := #[Operand.tmp 66], argTypes := #[27] }, type := 27, pos := "store.go:90", after := #[{ on := 4, ground := Ground.data }], guard := none }) rfl (by kernel_rfl) (by rfl) (q4 _ (Below.mod hb5 hS hs5 (by simp; omega))) ?_ ?_
            · (go_simp; try rfl)
            rintro e w' ⟨v7, rfl, hvr, hbx⟩
            refine ⟨_, rfl, hS.trans (Mod.of_below hbx), ?_⟩
            replace hS := hS.trans (Mod.of_below hbx)
            try simp only [Act.put, List.setIfInBounds_toArray, List.set_cons_zero, List.set_cons_succ]
            refine wpH_op 6 (oi := { dst := none, op := Op.mapUpdate 120 (Operand.tmp 62) (Operand.tmp 65) (Operand.tmp 67), type := 0, pos := "store.go:90", after := #[{ on := 0, ground := Ground.data }, { on := 3, ground := Ground.data }, { on := 5, ground := Ground.data }, { on := 5, ground := Ground.chain }, { on := 0, ground := Ground.phase }, { on := 1, ground := Ground.phase }, { on := 2, ground := Ground.phase }, { on := 3, ground := Ground.phase }, { on := 4, ground := Ground.phase }, { on := 5, ground := Ground.phase }], guard := none }) rfl (by kernel_rfl) (by rfl) ?_
            have hM6 := hM5.drew.keep hbx
            have hS6 := hS5.drew.keep hbx
            obtain ⟨es6, c6, hblk⟩ := hM6.block
            refine wp_mapT (.tmp 62) (.tmp 65) (.tmp 67) rfl rfl hM6 (by omega) a1 l3 rfl rfl (hvr.low (show base ≤ w4.heap.size from by omega)) ?_
            rintro w7 hM7 hg7
            have hS7 := hS6.grown hblk hg7
            have m7 : Mod [m'] _ w7 := hS.trans (grown_mod hg7)
            refine ⟨m7, ?_⟩
            try simp only [Act.put, List.setIfInBounds_toArray, List.set_cons_zero, List.set_cons_succ]
            refine wpAnyH_done (by kernel_rfl) ?_ _
            have hb7 := Below.mod hb5 m7 hs5 (by simp; omega)
            clear hM6 hS6 hblk hg7 hbx hS q4 hM5 hS5 N5 hb5
            go_wp2_with fail
            exact ⟨⟨i + 1, putK Ti a1 ⟨⟨a1, a2, a3, lb, pa, st, rc, tx, me, ne, K⟩, L, ta⟩, by omega, by go_num, hM7, HA2, by have := putK_len Ti a1 ⟨⟨a1, a2, a3, lb, pa, st, rc, tx, me, ne, K⟩, L, ta⟩; omega, hS7, hb7⟩, by simp [intOf]; omega⟩
        · have hil : i = l.length := by omega
          subst hil
          have HY : Hid (addsT l T = some Ti) := Lib.hid (by rw [HA.out, List.drop_length]; rfl)
          have hMo := HTM.out.keep hbr
          have hBo := HB0.out.keep hbr
          have hDo := HD.out.keep hbr
          have hJo := HJ.out.keep hbr
          have hKo := HK.out.keep hbr
          have hbs := HBASE.out
          have hsr := hbr.size
          have hml := hMr.lt
          have hJ : m ≠ p ∧ m ≠ j := by
            obtain ⟨es, c, hbl⟩ := hMo.block
            obtain ⟨vx, _, hx2⟩ := hDo.row
            exact ⟨hx2.notmap rfl hbl, hJo.notmap rfl hbl⟩
          clear hi hlt HA
          by_cases hnl : l = []
          · subst hnl
            obtain rfl : BT = [] := hBT.symm
            have q5 := twrite_nil q sa sc wr
            have B6 : Blk (wr.setCell ⟨q, 0, none⟩ (.map (some m'))) q #[.map (some m'), .int .i64 (span), .pointer (some ⟨j, 0, none⟩)] := by simpa using hBo.set 0 (.map (some m'))
            have m6 := (Mod.refl [q] wr).setCell (p := ⟨q, 0, none⟩) (.inl (by simp)) (.map (some m'))
            have hM6 := hMr.modl m6 (by simp; omega) (by simp; omega)
            have hJ6 := hJo.mod m6 (by simp; omega)
            have hD6 : DkV (wr.setCell ⟨q, 0, none⟩ (.map (some m'))) av p d := by
              obtain ⟨vx, hx1, hx2⟩ := hDo.row
              exact ⟨hDo.lt, vx, hx1.mod m6 hqa, hx2.mod m6 (by simp; omega)⟩
            have hmm := (Mod.of_below (l := [p, j, q]) hbr).trans (m6.sub (by simp))
            obtain ⟨b1, b2, b3⟩ := id hBo
            clear hMr hSr hDo hJo hKo hMo m6
            go_wp2_with fail
            refine q5.mono ?_
            rintro e w6 ⟨rfl, rfl⟩
            go_wp2_with fail
            go_ret
            rw [addD_none HY.out]
            exact ⟨m', rfl, B6, hM6, hD6, hJ6, hmm⟩
          · have hBTn : BT ≠ [] := by rw [← hBT]; unfold batchT; simpa using hnl
            have q5 := twrite_any av p j q (.map (some m)) span d (.slice sa BT.length sc) BT hBTn (by rw [HBL.out]; exact hn) HM.out hf hrm hsl wr hKo hDo hJo hpj hja (fun x hx => Nat.lt_of_lt_of_le (HAV.out x hx) hsr) hBo hSr.ss
            have HYES := Lib.hid (addD_yes (d := d) HF.out HY.out hnl)
            have HNO := Lib.hid (addD_no (d := d) HF.out HY.out hnl)
            rw [hBT] at HYES HNO
            generalize writeD d BT = R at *
            obtain ⟨d2, c⟩ := R
            simp only at q5 HYES HNO
            clear hDo hJo hKo
            go_wp2_with fail
            refine q5.mono ?_
            rintro e w6 ⟨rfl, hD6, hJ6, m6⟩
            have B6 := hBo.mod m6 (by simp; omega)
            have hM6 := hMr.modl m6 (by simp; omega) (by simp; omega)
            have hMo6 := hMo.modl m6 (by simp; omega) (by simp; exact ⟨hJ.1, hJ.2⟩)
            have hmm := (Mod.of_below (l := [p, j, q]) hbr).trans (m6.sub (by simp))
            obtain ⟨b1, b2, b3⟩ := id B6
            clear hMr hSr hBo hMo m6 q5
            by_cases hc : c = 0
            · subst hc
              have HR := HYES.out rfl
              have B7 : Blk (w6.setCell ⟨q, 0, none⟩ (.map (some m'))) q #[.map (some m'), .int .i64 (span), .pointer (some ⟨j, 0, none⟩)] := by simpa using B6.set 0 (.map (some m'))
              have m7 := (Mod.refl [q] w6).setCell (p := ⟨q, 0, none⟩) (.inl (by simp)) (.map (some m'))
              have hM7 := hM6.modl m7 (by simp; omega) (by simp; omega)
              have hJ7 := hJ6.mod m7 (by simp; omega)
              have hD7 : DkV (w6.setCell ⟨q, 0, none⟩ (.map (some m'))) av p d2 := by
                obtain ⟨vx, hx1, hx2⟩ := hD6.row
                exact ⟨hD6.lt, vx, hx1.mod m7 hqa, hx2.mod m7 (by simp; omega)⟩
              have hmm7 := hmm.trans (m7.sub (by simp))
              clear hD6 hJ6 hM6 m7
              go_wp2_with fail
              go_ret
              rw [HR]
              exact ⟨m', rfl, B7, hM7, hD7, hJ7, hmm7⟩
            · have HR := HNO.out hc
              have hc1 : (c != 0) = true := by simpa using hc
              have hc2 : (c == 0) = false := by simpa using hc
              go_wp2_with fail
              all_goals (go_ret; rw [HR]; exact ⟨m, rfl, B6, hMo6, hD6, hJ6, hmm⟩)
end Go.Proofs.YthgjdaomcpinaaaGreatDoor

/- trust.Store.Heights: the heights of what is trusted, in order. The program's walk. -/
set_option linter.unusedSimpArgs false
set_option linter.unusedVariables false
set_option linter.unnecessarySimpa false
namespace Go.Proofs.YthgjdaomcpinaaaGreatDoor
open Go.RowKit Go.WideMaps Go.Maps Go.Sort Go.Shelf Pl

theorem sortsZ (m : Nat) : AnyZI.SortsIn Tryz.prog sortedT_ren Fence.wide m :=
  ⟨fun blk off cap ss W hH hblk hsz => callsIn_wide.2 (AnyM.slices_Sort_int sortT blk off cap ss W hH hblk hsz),
   fun p cap W => callsIn_wide.2 (AnyM.slices_Sort_int_none sortT p cap W)⟩
theorem keysT_any (mb : Option Nat) (W : World) : Calls Tryz.prog 76 #[.map mb] W fun e w' => e = .returned (.func (.func 137) #[] #[.pointer (some ⟨W.heap.size, 0, none⟩)]) ∧ w' = W.alloc (.cells #[.map mb] 120) :=
  (callsIn_wide (n := 5)).1 (AnyZI.keys_in keysT Fence.wide 5 trivial rfl mb W)
/-- Numbers in order. -/
def sortZ (l : List Int) : List Int := l.mergeSort leI
theorem sortZ_len (l : List Int) : (sortZ l).length = l.length := List.length_mergeSort l
theorem sortZ_mem {l : List Int} {x : Int} : x ∈ sortZ l ↔ x ∈ l := List.mem_mergeSort
theorem sortZ_sorted (l : List Int) : (sortZ l).Pairwise (· ≤ ·) := by
  have h := List.pairwise_mergeSort (le := leI) (fun a b c h1 h2 => by simp only [leI, decide_eq_true_eq] at *; omega) (fun a b => by simp only [leI, Bool.or_eq_true, decide_eq_true_eq]; omega) l
  exact h.imp (fun h => by simpa [leI] using h)
theorem sortZ_nodup {l : List Int} (h : l.Nodup) : (sortZ l).Nodup := (List.mergeSort_perm l leI).nodup_iff.2 h
theorem keys_permI {H : Type} {w : World} {R : Value → Option (DataW H × List MemPlace)} {b n : Nat} {D : DataW H} {ss : List Int} (ho : w.ownsMap Tryz.prog 3 R b n D) (hn : ss.Nodup) (hm : ∀ k : Int, Maps.has D (.int .i64 k) = decide (k ∈ ss)) : ss.Perm (intKeys D) :=
  CollectedI.perm (left := fun _ => false) ⟨hn, fun x => by simp [hm]⟩ ho keyedI Tryz.underlying3 (fun _ => rfl)
set_option maxHeartbeats 1000000 in
theorem sortedT_any {H : Type} (b nn : Nat) (D0 : DataW H) (R : Value → Option (DataW H × List MemPlace)) (w : World) (hown : w.ownsMap Tryz.prog 3 R b nn D0) (hmax : Maps.size D0 ≤ 1000000) :
    Calls Tryz.prog 75 #[.func (.func 137) #[] #[.pointer (some ⟨w.heap.size, 0, none⟩)]] (w.alloc (.cells #[.map (some b)] 120)) fun e w' => ∃ v, e = .returned v ∧ ZRow w' w.heap.size v (sortZ (intKeys D0)) ∧ Below w.heap.size (w.alloc (.cells #[.map (some b)] 120)) w' := by
  have hbl := hown.lt
  have hseq : SeqGives Fence.wide 2 Tryz.prog 137 #[.pointer (some ⟨w.heap.size, 0, none⟩)] encZ (fun ss => ss.Perm (intKeys D0)) (Maps.size D0) (w.alloc (.cells #[.map (some b)] 120)) :=
    AnyZI.keys_gives (ρ := keysT_ren) { keysT with } Fence.wide _ trivial rfl (by omega) w.heap.size b nn D0 _ (by simp) (by simp) (by
      obtain ⟨es, clock, hb, Ft, hs, hD⟩ := hown
      exact ⟨es, clock, (Below.heap_alloc _ _ b hbl).trans hb, Ft, hs, hD⟩)
  have h := (callsIn_wide (n := 5)).1 (AnyZI.sorted_in sortedT Fence.wide 5 trivial trivial trivial trivial rfl (by omega) (sortsZ _) (enters_of Tryz.func136 (by kernel_rfl) rfl) 137 #[.pointer (some ⟨w.heap.size, 0, none⟩)] trivial (enters_of Tryz.func137 (by kernel_rfl) rfl) _ _ (by unfold maxLen; omega) (by omega) _ hseq)
  refine h.mono ?_
  rintro e w' ⟨v, ss, rfl, hp, hrow, _, hb⟩
  refine ⟨v, rfl, ?_, hb.mono (by simp)⟩
  have hms : ss.mergeSort (fun x y => decide (x ≤ y)) = sortZ (intKeys D0) := mergeSort_of_perm_i hp
  rw [hms] at hrow
  have hl : ss.length = (sortZ (intKeys D0)).length := by rw [sortZ_len, hp.length_eq]
  rw [hl] at hrow
  exact ZRow.low (show ZRow w' _ v _ from hrow) (by simp)
set_option maxRecDepth 100000 in
set_option maxHeartbeats 1000000 in
theorem theights_any (base q m : Nat) (span : Int) (jp : Value) (T : List (Int × Tr)) (hTl : T.length ≤ 100000) (w : World) (hM : TrM w base m T) (B : Blk w q #[.map (some m), .int .i64 (span), jp]) :
    Calls Tryz.prog 29 #[.pointer (some ⟨q, 0, none⟩)] w fun e w' => ∃ v, e = .returned v ∧ ZRow w' w.heap.size v (sortZ (hts T)) ∧ Below w.heap.size w w' := by
  obtain ⟨D, ho, hD⟩ := hM
  have hkb := keysT_any (some m)
  have hso := sortedT_any m _ D hT w ho (by rw [hD.size]; omega)
  rw [show sortZ (intKeys D) = sortZ (hts T) from (mergeSort_of_perm_i (keys_permI ho hD.nodup hD.has)).symm] at hso
  generalize sortZ (hts T) = L at *
  obtain ⟨b1, b2, b3⟩ := id B
  clear B ho hD
  go_enter Tryz.func29, Tryz.ntmps29
  go_wp2_with fail
  refine (hkb _).mono ?_
  rintro e w1 ⟨rfl, rfl⟩
  go_wp2_with fail
  refine hso.mono ?_
  rintro e w2 ⟨v, rfl, hr, hb⟩
  go_wp2_with fail
  go_ret
  exact ⟨v, rfl, hr, (Below.allocS (Below.refl _ _) _).trans hb⟩
end Go.Proofs.YthgjdaomcpinaaaGreatDoor

/- trust.Store.first: the first one of heights that is not stale. The program's walk. Printed by mktfirst.py. -/
set_option linter.unusedSimpArgs false
set_option linter.unusedVariables false
namespace Go.Proofs.YthgjdaomcpinaaaGreatDoor
open Go.RowKit Go.WideMaps Go.Maps Go.Sort Go.Shelf Pl

namespace Pl
/-- What is trusted of a height that is there. -/
def lookK (T : List (Int × Tr)) (k : Int) : Option Tr := (T.find? (fun e => e.1 == k)).map (·.2)
/-- The first one of heights that is not stale. -/
def firstT (T : List (Int × Tr)) (span now : Int) : List Int → Option Tr
  | [] => none
  | k :: r => match lookK T k with
    | none => firstT T span now r
    | some t => if staleT span now t = true then firstT T span now r else some t
/-- Its code. -/
def firstC (o : Option Tr) (l : List Int) : Int := match o with
  | some _ => 0
  | none => if l = [] then 5 else 330
end Pl
theorem lookK_in {T : List (Int × Tr)} (hn : (hts T).Nodup) {k : Int} {t : Tr} (h : (k, t) ∈ T) : lookK T k = some t := by
  induction T with
  | nil => cases h
  | cons x r ih =>
    unfold hts at hn
    rw [List.map_cons, List.nodup_cons] at hn
    unfold lookK
    rw [List.find?_cons]
    rcases List.mem_cons.1 h with e | e
    · rw [← e]
      simp
    · have hne : (x.1 == k) = false := by
        rw [beq_eq_false_iff_ne]
        intro e2
        exact hn.1 (List.mem_map.2 ⟨_, e, e2.symm⟩)
      rw [hne]
      exact ih hn.2 e
theorem firstT_stale {T : List (Int × Tr)} {span now k : Int} {r : List Int} {t : Tr} (h : lookK T k = some t) (hs : staleT span now t = true) : firstT T span now (k :: r) = firstT T span now r := by
  rw [firstT, h]
  simp only
  rw [if_pos hs]
theorem firstT_fresh {T : List (Int × Tr)} {span now k : Int} {r : List Int} {t : Tr} (h : lookK T k = some t) (hs : staleT span now t = false) : firstT T span now (k :: r) = some t := by
  rw [firstT, h]
  simp only
  rw [if_neg (by rw [hs]; decide)]
/-- What a store has is small, and stands at its height. -/
def TrSm (T : List (Int × Tr)) : Prop := ∀ e ∈ T, e.2.head.skips.length ≤ 1000000 ∧ e.2.set.length ≤ 1000000 ∧ -9223372036854775808 ≤ e.1 ∧ e.1 ≤ 9223372036854775807
theorem dropZ (l : List Int) (i : Nat) (hi : i < l.length) : l.drop i = l.getD i 0 :: l.drop (i + 1) := by
  rw [List.drop_eq_getElem_cons hi, List.getD_eq_getElem?_getD, List.getElem?_eq_getElem hi]
  rfl
theorem hts_mem {T : List (Int × Tr)} {k : Int} (h : k ∈ hts T) : ∃ t, (k, t) ∈ T := by
  obtain ⟨e, he, e1⟩ := List.mem_map.1 h
  exact ⟨e.2, by rw [← e1]; exact he⟩
/-- v is what is told of one that is trusted, or of none. -/
def FV (w : World) (b : Nat) (v : Value) (o : Option Tr) : Prop := match o with
  | some t => TRow w b v t
  | none => v = nilT
set_option maxRecDepth 100000 in
set_option maxHeartbeats 8000000 in
theorem tfirst_any (base q m : Nat) (span : Int) (jp : Value) (T : List (Int × Tr)) (v : Value) (l : List Int) (now : Int) (hsm : TrSm T) (hl : ∀ k ∈ l, k ∈ hts T) (hn : -9223372036854775808 ≤ now ∧ now ≤ 9223372036854775807) (hs : 0 ≤ span ∧ span ≤ 1099511627776) (w : World) (hM : TrM w base m T) (B : Blk w q #[.map (some m), .int .i64 (span), jp]) (hv : IS w v l) :
    Calls Tryz.prog 79 #[.pointer (some ⟨q, 0, none⟩), v, .int .i64 (now)] w fun e w' => ∃ v', e = .returned (.tuple #[v', .int .i64 (firstC (firstT T span now l) l)]) ∧ FV w' w.heap.size v' (firstT T span now l) ∧ Below w.heap.size w w' := by
  have Z0 : Blk (w.alloc (.cells #[.int .i64 (0), .int .i64 (0), .int .i64 (0), .bool false, .string ⟨List.toArray ([])⟩, .string ⟨List.toArray ([])⟩, .string ⟨List.toArray ([])⟩, .string ⟨List.toArray ([])⟩, .string ⟨List.toArray ([])⟩, .string ⟨List.toArray ([])⟩, .slice none 0 0, .slice none 0 0, .int .i64 (0)] 27)) w.heap.size (List.toArray [.int .i64 (0), .int .i64 (0), .int .i64 (0), .bool false, .string ⟨List.toArray ([])⟩, .string ⟨List.toArray ([])⟩, .string ⟨List.toArray ([])⟩, .string ⟨List.toArray ([])⟩, .string ⟨List.toArray ([])⟩, .string ⟨List.toArray ([])⟩, .slice none 0 0, .slice none 0 0, .int .i64 (0)]) := Blk.new _ _ _
  have hb0 : Below w.heap.size w (w.alloc (.cells #[.int .i64 (0), .int .i64 (0), .int .i64 (0), .bool false, .string ⟨List.toArray ([])⟩, .string ⟨List.toArray ([])⟩, .string ⟨List.toArray ([])⟩, .string ⟨List.toArray ([])⟩, .string ⟨List.toArray ([])⟩, .string ⟨List.toArray ([])⟩, .slice none 0 0, .slice none 0 0, .int .i64 (0)] 27)) := Below.allocS (Below.refl _ _) _
  obtain ⟨a, cap, rfl⟩ := hv.form
  have hlm := hv.small
  have HV := Lib.hid hv
  have HM := Lib.hid hM
  have HB := Lib.hid B
  have HL := Lib.hid hl
  have HSM := Lib.hid hsm
  clear hv hM B hl hsm
  go_enter Tryz.func79, Tryz.ntmps79
  go_wp2_with fail
  go_loopw [8, 15] (fun s8 s15 wr => ∃ (i : Nat) (c : Int), i ≤ l.length ∧ s15 = .int .i64 (i) ∧ s8 = .int .i64 (c) ∧ Hid (c = if i = 0 then 5 else 330) ∧ Hid (firstT T span now l = firstT T span now (l.drop i)) ∧ Blk wr w.heap.size (List.toArray [.int .i64 (0), .int .i64 (0), .int .i64 (0), .bool false, .string ⟨List.toArray ([])⟩, .string ⟨List.toArray ([])⟩, .string ⟨List.toArray ([])⟩, .string ⟨List.toArray ([])⟩, .string ⟨List.toArray ([])⟩, .string ⟨List.toArray ([])⟩, .slice none 0 0, .slice none 0 0, .int .i64 (0)]) ∧ Below w.heap.size w wr) (fun _ s15 _ => l.length - (intOf s15).toNat)
  case atStart => exact ⟨0, 5, by omega, rfl, rfl, Lib.hid rfl, Lib.hid (by rw [List.drop_zero]), Z0, hb0⟩
  case round =>
    clear Z0 hb0
    obtain ⟨i, c, hi, rfl, rfl, HCI, HF, Z, hb⟩ := hrel
    by_cases hlt : i < l.length
    · have hbd : 0 ≤ (i : Int) ∧ (i : Int) < (l.length : Int) := by omega
      obtain ⟨g, off, e1, hg, c1⟩ := (HV.out.keep hb).at' i hlt
      subst e1
      have HDR := Lib.hid (dropZ l i hlt)
      have hkl : l.getD i 0 ∈ l := by rw [List.getD_eq_getElem?_getD, List.getElem?_eq_getElem hlt]; exact List.getElem_mem _
      have hk := HL.out _ hkl
      generalize l.getD i 0 = k at *
      obtain ⟨t, ht⟩ := hts_mem hk
      obtain ⟨l1, l2, l3, l4⟩ := HSM.out _ ht
      simp only at l1 l2 l3 l4
      have HLK := Lib.hid (lookK_in HM.out.nodup ht)
      have q1 := fun (W : World) (hb : Below w.heap.size w W) => tat_any base q m span jp T k now t ⟨l3, l4⟩ hn hs ht l1 l2 W (HM.out.keep hb) (HB.out.keep hb)
      clear hk hkl ht
      have HST1 := Lib.hid (fun h => firstT_stale (T := T) (span := span) (now := now) (r := l.drop (i + 1)) HLK.out h)
      have HST2 := Lib.hid (fun h => firstT_fresh (T := T) (span := span) (now := now) (r := l.drop (i + 1)) HLK.out h)
      generalize staleT span now t = st at *
      go_wp2_with fail
      refine (q1 _ hb).mono ?_
      rintro e w1 ⟨v1, rfl, hv1, hbx⟩
      have Z1 := Z.keep hbx
      have hb1 := hb.trans (hbx.mono hb.size)
      have hszb := hb.size
      have hzl := Z.lt
      have hszx := hbx.size
      clear q1 hbx hb Z
      cases st
      · have hv1 : TRow w1 _ v1 t := hv1
        obtain ⟨⟨a1, a2, a3, lb, pa, sr, rc, tx, me, ne, K⟩, L, ta⟩ := t
        obtain ⟨sk, ms, rfl, r1, r2⟩ := hv1
        simp only at r1 r2
        obtain ⟨ka, kc, rfl⟩ := r1.form
        obtain ⟨ma, mc, rfl⟩ := r2.form
        have HR : Hid (firstT T span now l = some ⟨⟨a1, a2, a3, lb, pa, sr, rc, tx, me, ne, K⟩, L, ta⟩) := Lib.hid (by rw [HF.out, HDR.out]; exact HST2.out rfl)
        clear HF HDR HST1 HST2 HLK
        go_wp2_with (first | (refine wpList_rowStore row_trust rfl rfl (.tmp 11) (.tmp 24) rfl rfl rfl (vs := [.int .i64 (a1), .int .i64 (a2), .int .i64 (a3), .bool lb, .string ⟨List.toArray (pa)⟩, .string ⟨List.toArray (sr)⟩, .string ⟨List.toArray (rc)⟩, .string ⟨List.toArray (tx)⟩, .string ⟨List.toArray (me)⟩, .string ⟨List.toArray (ne)⟩, .slice ka K.length kc, .slice ma L.length mc, .int .i64 (ta)]) rfl (by simp [Value.oneCell']) (us := [.int .i64 (0), .int .i64 (0), .int .i64 (0), .bool false, .string ⟨List.toArray ([])⟩, .string ⟨List.toArray ([])⟩, .string ⟨List.toArray ([])⟩, .string ⟨List.toArray ([])⟩, .string ⟨List.toArray ([])⟩, .string ⟨List.toArray ([])⟩, .slice none 0 0, .slice none 0 0, .int .i64 (0)]) rfl (Blk.new' (by simp)) ?_; intro w2 N2 m2; have hbn := Below.mod (Below.allocS (Below.refl w1.heap.size w1) (.cells #[.int .i64 (0), .int .i64 (0), .int .i64 (0), .bool false, .string ⟨List.toArray ([])⟩, .string ⟨List.toArray ([])⟩, .string ⟨List.toArray ([])⟩, .string ⟨List.toArray ([])⟩, .string ⟨List.toArray ([])⟩, .string ⟨List.toArray ([])⟩, .slice none 0 0, .slice none 0 0, .int .i64 (0)] 27)) m2 (by simp) (by simp); have Z2 := Z1.keep hbn; have hb2 := hb1.trans (hbn.mono hb1.size); have y1 := r1.keep hbn; have y2 := r2.keep hbn) | (refine wpList_rowLoad row_trust rfl (.tmp 11) rfl rfl (vs := [.int .i64 (a1), .int .i64 (a2), .int .i64 (a3), .bool lb, .string ⟨List.toArray (pa)⟩, .string ⟨List.toArray (sr)⟩, .string ⟨List.toArray (rc)⟩, .string ⟨List.toArray (tx)⟩, .string ⟨List.toArray (me)⟩, .string ⟨List.toArray (ne)⟩, .slice ka K.length kc, .slice ma L.length mc, .int .i64 (ta)]) rfl N2 ?_) | (refine wpList_rowStore row_trust rfl rfl (.tmp 6) (.tmp 28) rfl rfl rfl (vs := [.int .i64 (a1), .int .i64 (a2), .int .i64 (a3), .bool lb, .string ⟨List.toArray (pa)⟩, .string ⟨List.toArray (sr)⟩, .string ⟨List.toArray (rc)⟩, .string ⟨List.toArray (tx)⟩, .string ⟨List.toArray (me)⟩, .string ⟨List.toArray (ne)⟩, .slice ka K.length kc, .slice ma L.length mc, .int .i64 (ta)]) rfl (by simp [Value.oneCell']) (us := [.int .i64 (0), .int .i64 (0), .int .i64 (0), .bool false, .string ⟨List.toArray ([])⟩, .string ⟨List.toArray ([])⟩, .string ⟨List.toArray ([])⟩, .string ⟨List.toArray ([])⟩, .string ⟨List.toArray ([])⟩, .string ⟨List.toArray ([])⟩, .slice none 0 0, .slice none 0 0, .int .i64 (0)]) rfl Z2 ?_; intro w5 N5 m5))
        have hld := row_loadVar row_trust w5 (vs := [.int .i64 (a1), .int .i64 (a2), .int .i64 (a3), .bool lb, .string ⟨List.toArray (pa)⟩, .string ⟨List.toArray (sr)⟩, .string ⟨List.toArray (rc)⟩, .string ⟨List.toArray (tx)⟩, .string ⟨List.toArray (me)⟩, .string ⟨List.toArray (ne)⟩, .slice ka K.length kc, .slice ma L.length mc, .int .i64 (ta)]) rfl N5
        refine bodyPost_ret (results_cell_tmp2 rfl _ _ _ _ rfl hld) rfl ?_
        rw [HR.out]
        exact ⟨_, rfl, show TRow _ _ _ _ from ⟨_, _, rfl, SRow.low (y1.mod m5 hzl) (by omega), MRow.low (y2.mod m5 hzl) (by omega)⟩, Below.mod hb2 m5 hb2.size (by simp)⟩
      · have hv1 : v1 = nilT := hv1
        subst hv1
        have HR : Hid (firstT T span now l = firstT T span now (l.drop (i + 1))) := Lib.hid (by rw [HF.out, HDR.out]; exact HST1.out rfl)
        clear HF HDR HST1 HST2 HLK
        go_wp2_with (first | (refine wpList_rowStore row_trust rfl rfl (.tmp 11) (.tmp 24) rfl rfl rfl (vs := [.int .i64 (0), .int .i64 (0), .int .i64 (0), .bool false, .string ⟨List.toArray ([])⟩, .string ⟨List.toArray ([])⟩, .string ⟨List.toArray ([])⟩, .string ⟨List.toArray ([])⟩, .string ⟨List.toArray ([])⟩, .string ⟨List.toArray ([])⟩, .slice none 0 0, .slice none 0 0, .int .i64 (0)]) rfl (by simp [Value.oneCell']) (us := [.int .i64 (0), .int .i64 (0), .int .i64 (0), .bool false, .string ⟨List.toArray ([])⟩, .string ⟨List.toArray ([])⟩, .string ⟨List.toArray ([])⟩, .string ⟨List.toArray ([])⟩, .string ⟨List.toArray ([])⟩, .string ⟨List.toArray ([])⟩, .slice none 0 0, .slice none 0 0, .int .i64 (0)]) rfl (Blk.new' (by simp)) ?_; intro w2 N2 m2; have hbn := Below.mod (Below.allocS (Below.refl w1.heap.size w1) (.cells #[.int .i64 (0), .int .i64 (0), .int .i64 (0), .bool false, .string ⟨List.toArray ([])⟩, .string ⟨List.toArray ([])⟩, .string ⟨List.toArray ([])⟩, .string ⟨List.toArray ([])⟩, .string ⟨List.toArray ([])⟩, .string ⟨List.toArray ([])⟩, .slice none 0 0, .slice none 0 0, .int .i64 (0)] 27)) m2 (by simp) (by simp)))
        exact ⟨⟨i + 1, 330, by omega, by go_num, rfl, Lib.hid (by rw [if_neg (by omega)]), HR, Z1.keep hbn, hb1.trans (hbn.mono hb1.size)⟩, by simp [intOf]; omega⟩
    · have hil : i = l.length := by omega
      subst hil
      have HR : Hid (firstT T span now l = none) := Lib.hid (by rw [HF.out, List.drop_length]; rfl)
      have HC : Hid (firstC none l = if l.length = 0 then 5 else 330) := Lib.hid (by cases l <;> rfl)
      clear HF
      go_wp2_with (first | (refine wpList_rowStore row_trust rfl rfl (.tmp 6) (.tmp 32) rfl rfl rfl (vs := [.int .i64 (0), .int .i64 (0), .int .i64 (0), .bool false, .string ⟨List.toArray ([])⟩, .string ⟨List.toArray ([])⟩, .string ⟨List.toArray ([])⟩, .string ⟨List.toArray ([])⟩, .string ⟨List.toArray ([])⟩, .string ⟨List.toArray ([])⟩, .slice none 0 0, .slice none 0 0, .int .i64 (0)]) rfl (by simp [Value.oneCell']) (us := [.int .i64 (0), .int .i64 (0), .int .i64 (0), .bool false, .string ⟨List.toArray ([])⟩, .string ⟨List.toArray ([])⟩, .string ⟨List.toArray ([])⟩, .string ⟨List.toArray ([])⟩, .string ⟨List.toArray ([])⟩, .string ⟨List.toArray ([])⟩, .slice none 0 0, .slice none 0 0, .int .i64 (0)]) rfl Z ?_; intro w5 N5 m5))
      have hld := row_loadVar row_trust w5 (vs := [.int .i64 (0), .int .i64 (0), .int .i64 (0), .bool false, .string ⟨List.toArray ([])⟩, .string ⟨List.toArray ([])⟩, .string ⟨List.toArray ([])⟩, .string ⟨List.toArray ([])⟩, .string ⟨List.toArray ([])⟩, .string ⟨List.toArray ([])⟩, .slice none 0 0, .slice none 0 0, .int .i64 (0)]) rfl N5
      refine bodyPost_ret (results_cell_tmp2 rfl _ _ _ _ rfl hld) rfl ?_
      rw [HR.out, HC.out, ← HCI.out]
      refine ⟨nilT, rfl, ?_, Below.mod hb m5 hb.size (by simp)⟩
      rfl
end Go.Proofs.YthgjdaomcpinaaaGreatDoor

/- The laws of the library that the sorts lean on, at this program. -/
set_option linter.unusedVariables false
namespace Go.Proofs.YthgjdaomcpinaaaGreatDoor
open Go.Shelf

def laysRev_ren : Go.Shelf.Ren := ⟨fun | 112 => 77 | n => n, fun | 28 => 51 | 3 => 3 | 4 => 4 | 0 => 0 | n => n, fun | n => n⟩
theorem laysRev : Go.Proofs.Lays.n112 Tryz.prog laysRev_ren := {
  mixed := by kernel_rfl
  f112 := Tryz.func77.trans (congrArg some (by kernel_rfl))
  t0 := Tryz.underlying0
  a0 := Tryz.isAgg0
  z0 := Tryz.sizeOf0
  v0 := Tryz.zeroValue0
  t3 := Tryz.underlying3
  a3 := Tryz.isAgg3
  z3 := Tryz.sizeOf3
  v3 := Tryz.zeroValue3
  t4 := Tryz.underlying4
  a4 := Tryz.isAgg4
  z4 := Tryz.sizeOf4
  v4 := Tryz.zeroValue4
  t28 := Tryz.underlying51
  a28 := Tryz.isAgg51
  z28 := Tryz.sizeOf51
  v28 := Tryz.zeroValue51 }

end Go.Proofs.YthgjdaomcpinaaaGreatDoor

/- The laws of the library that the sorts lean on, at this program. -/
set_option linter.unusedVariables false
namespace Go.Proofs.YthgjdaomcpinaaaGreatDoor
open Go.Shelf

def laysBin_ren : Go.Shelf.Ren := ⟨fun | 25 => 80 | 31 => 138 | 32 => 139 | 37 => 165 | n => n, fun | 22 => 51 | 3 => 3 | 4 => 4 | 40 => 170 | 0 => 0 | n => n, fun | n => n⟩
theorem laysBin : Go.Proofs.Lays2.n25 Tryz.prog laysBin_ren := {
  mixed := by kernel_rfl
  f25 := Tryz.func80.trans (congrArg some (by kernel_rfl))
  f31 := Tryz.func138.trans (congrArg some (by kernel_rfl))
  f32 := Tryz.func139.trans (congrArg some (by kernel_rfl))
  f37 := Tryz.func165.trans (congrArg some (by kernel_rfl))
  t0 := Tryz.underlying0
  a0 := Tryz.isAgg0
  z0 := Tryz.sizeOf0
  v0 := Tryz.zeroValue0
  t3 := Tryz.underlying3
  a3 := Tryz.isAgg3
  z3 := Tryz.sizeOf3
  v3 := Tryz.zeroValue3
  t4 := Tryz.underlying4
  a4 := Tryz.isAgg4
  z4 := Tryz.sizeOf4
  v4 := Tryz.zeroValue4
  t22 := Tryz.underlying51
  a22 := Tryz.isAgg51
  z22 := Tryz.sizeOf51
  v22 := Tryz.zeroValue51
  t40 := Tryz.underlying170
  a40 := Tryz.isAgg170
  z40 := Tryz.sizeOf170
  v40 := Tryz.zeroValue170 }

end Go.Proofs.YthgjdaomcpinaaaGreatDoor
