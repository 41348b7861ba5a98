/- TAddW, TWorksP, TWorks. -/
import Derived.Test.YthgjdaomcpinaaaGreatDoorMg26
set_option linter.unnecessarySimpa false

/- trust.Store.Add: some are there. The program's walk. Printed by mktadd.py. -/
set_option linter.unusedSimpArgs false
set_option linter.unusedVariables false
namespace Go.Proofs.YthgjdaomcpinaaaGreatDoor
open Go.RowKit Go.WideMaps Go.Maps Go.Sort Go.Shelf Pl

theorem SRow.at_lt {w : World} {base k : Nat} {v : Value} {l : List Bs} (h : SRow w base v l) (hk : v.ownBlock = some k) : k < w.heap.size := by
  rcases h.cells with ⟨rfl, _⟩ | ⟨g, cap, rfl, _, h2, _⟩
  · cases hk
  · cases hk; exact h2
theorem may_at {l : List Tr} (h : mayR (batchT l) = true) {i : Nat} {t : Tr} (hi : l[i]? = some t) : (writT t).length ≤ 65536 := by
  unfold mayR at h
  simp only [Bool.and_eq_true, List.all_eq_true, decide_eq_true_eq] at h
  have := h.1.2 (1 :: writT t) (List.mem_map.2 ⟨t, List.mem_of_getElem? hi, rfl⟩)
  simp at this
  omega
theorem TRow.low {w : World} {base c : Nat} {v : Value} {t : Tr} (h : TRow w base v t) (hc : c ≤ base) : TRow w c v t := by
  obtain ⟨sk, ms, h1, h2, h3⟩ := h
  exact ⟨sk, ms, h1, h2.low hc, h3.low hc⟩
theorem TRow.drew {w : World} {base : Nat} {v : Value} {t : Tr} (h : TRow w base v t) : TRow w.drew base v t := by
  obtain ⟨sk, ms, h1, h2, h3⟩ := h
  exact ⟨sk, ms, h1, h2.drew, h3.kept (fun k _ => rfl)⟩
theorem TrM.drew {w : World} {base m : Nat} {T : List (Int × Tr)} (h : TrM w base m T) : TrM w.drew base m T := by
  obtain ⟨D, ho, hD⟩ := h
  exact ⟨D, ho.drew, hD.has, fun e he => (by obtain ⟨v, h1, h2⟩ := hD.val e he; exact ⟨v, h1, h2.drew⟩), hD.nodup, hD.size⟩
theorem MRow.at_lt {w : World} {base k : Nat} {v : Value} {l : List (Bs × Int)} (h : MRow w base v l) (hk : v.ownBlock = some k) : k < w.heap.size := by
  rcases h.cells with ⟨rfl, _⟩ | ⟨g, cap, rfl, _, h2, _⟩
  · cases hk
  · cases hk; exact h2
theorem TRow.modl {w w' : World} {base : Nat} {l : List Nat} {v : Value} {t : Tr} (h : TRow w base v t) (hm : Mod l w w') (hl : ∀ x ∈ l, x < base) : TRow w' base v t := by
  obtain ⟨sk, ms, h1, h2, h3⟩ := h
  exact ⟨sk, ms, h1, h2.kept (fun k hk => hm.block k (h2.at_lt hk) (fun hi => absurd (hl k hi) (Nat.not_lt.2 (h2.own k hk)))), h3.kept (fun k hk => hm.block k (h3.at_lt hk) (fun hi => absurd (hl k hi) (Nat.not_lt.2 (h3.own k hk))))⟩
theorem TrM.modl {w w' : World} {base m : Nat} {l : List Nat} {T : List (Int × Tr)} (h : TrM w base m T) (hm : Mod l w w') (hl : ∀ x ∈ l, x < base) (hn : m ∉ l) : TrM w' base m T := by
  obtain ⟨D, ho, hD⟩ := h
  exact ⟨D, tmap_at ho (hm.block m ho.lt hn), hD.has, fun e he => (by obtain ⟨v, h1, h2⟩ := hD.val e he; exact ⟨v, h1, h2.modl hm hl⟩), hD.nodup, hD.size⟩
theorem Blk.notmap {w : World} {b m : Nat} {cs : Array Value} {es : Array MapEntry} {c : Nat} (h : Blk w b cs) (hc : cs[0]?.isSome = true) (hm : w.heap[m]? = some (.map es c)) : m ≠ b := by
  intro e
  subst e
  have h1 := h.cell 0
  unfold World.cell? at h1
  rw [hm] at h1
  rw [← h1] at hc
  cases hc
theorem wp_mapT {o : Oper} {a : Act} {w : World} {K : Act → World → Prop} {Q : Exit → Act → World → Prop} (m x v : Operand) (hop : o.op = Op.mapUpdate 120 m x v)
    {base b : Nat} {T : List (Int × Tr)} (hm : a.eval m = .map (some b)) (hM : TrM w base b T) (hl : T.length < 1000000) (k : Int) (hk : -9223372036854775808 ≤ k ∧ k ≤ 9223372036854775807) {t : Tr} {vv : Value} (hx : a.eval x = .int .i64 (k)) (hv : a.eval v = vv) (hr : TRow w base vv t)
    (hK : ∀ w', TrM w' base b (putK T k t) → w.grownBy w' (some b) → K (a.put o.dst undef) w') : o.wp Tryz.prog a w K Q := by
  obtain ⟨w', hrun, r1, r2⟩ := hM.update hl k hk t vv hr
  unfold Oper.wp
  simp [execOp, hop, hm, hx, hv, hrun, Result.andThen]
  exact hK w' r1 r2
set_option maxRecDepth 100000 in
set_option maxHeartbeats 8000000 in
theorem tadd_any (av : List Nat) (base p j q m : Nat) (span : Int) (d : Dk) (T : List (Int × Tr)) (v : Value) (l : List Tr) (hn : l.length ≤ 1000) (hT : T.length ≤ 10000) (hm : mayR (batchT l) = true) (hf : -9223372036854775808 ≤ d.fuse ∧ d.fuse ≤ 9223372036854775807) (hrm : 0 ≤ d.room ∧ d.room ≤ 1048576) (hsl : d.s.length ≤ 1048576) (hcl : ∀ t ∈ l, t.head.skips.length ≤ 1000000 ∧ t.set.length ≤ 1000000 ∧ -9223372036854775808 ≤ t.head.height ∧ t.head.height ≤ 9223372036854775807) (w : World) (hk : KT w) (h : DkV w av p d) (hj : Blk w j #[.pointer (some ⟨p, 0, none⟩), .bool false]) (hpj : p ≠ j) (hja : j ∈ av) (hqa : q ∈ av) (hav : ∀ x ∈ av, x < w.heap.size) (hpb : p < base) (hjb : j < base) (hqb : q < base) (hpq : p ≠ q) (hqj : q ≠ j) (hbase : base ≤ w.heap.size) (B : Blk w q #[.map (some m), .int .i64 (span), .pointer (some ⟨j, 0, none⟩)]) (hM : TrM w base m T) (hv : TL w v l) :
    Calls Tryz.prog 24 #[.pointer (some ⟨q, 0, none⟩), v] w fun e w' => ∃ m', e = .returned (.int .i64 ((addD d T l).2.2.1)) ∧ Blk w' q #[.map (some m'), .int .i64 (span), .pointer (some ⟨j, 0, none⟩)] ∧ TrM w' base m' (addD d T l).2.1 ∧ DkV w' av p (addD d T l).1 ∧ Blk w' j #[.pointer (some ⟨p, 0, none⟩), .bool (addD d T l).2.2.2] ∧ Mod [p, j, q] w w' := by
  have hpa := h.lt
  have HAV := Lib.hid hav
  obtain ⟨a, cap, rfl⟩ := hv.form
  have HN := Lib.hid hn
  have HCL := Lib.hid hcl
  have HM := Lib.hid hm
  have HV := Lib.hid hv
  have HJ := Lib.hid hj
  have HD := Lib.hid h
  have HTM := Lib.hid hM
  have HK := Lib.hid hk
  have HB0 := Lib.hid B
  have HBASE := Lib.hid hbase
  clear hcl hm hv hj h hM hk B hbase hav
  go_enter Tryz.func24, Tryz.ntmps24
  go_wp2_with fail
  go_loopw [5, 18] (fun s5 s18 wr => ∃ i : Nat, i ≤ l.length ∧ s18 = .int .i64 (i) ∧ SRow wr w.heap.size s5 (batchT (l.take i)) ∧ Hid ((l.take i).all fineT = true) ∧ Below w.heap.size w wr) (fun _ s18 _ => l.length - (intOf s18).toNat)
  case atStart => exact ⟨0, by omega, rfl, SRow.nil _ _, Lib.hid (by simp), Below.refl _ _⟩
  case round =>
    obtain ⟨i, hi, rfl, hS, HF, hb⟩ := hrel
    obtain ⟨sa, sc, rfl⟩ := hS.form
    by_cases hlt : i < l.length
    · have hbd : 0 ≤ (i : Int) ∧ (i : Int) < (l.length : Int) := by omega
      obtain ⟨t, ht⟩ : ∃ t, l[i]? = some t := ⟨l[i], List.getElem?_eq_getElem hlt⟩
      obtain ⟨g, off, sk, ms, rfl, hg, hR, h1, h2, p1, p2⟩ := HV.out.at i t ht
      have HSN := Lib.hid (batch_snoc l i t ht)
      have HFS := Lib.hid (fine_stop l i t ht)
      have HFY := Lib.hid (fine_step l i t ht)
      have HBL := Lib.hid (batch_len (l.take i))
      have hwl := may_at HM.out ht
      clear ht
      have hbl : (batchT (l.take i)).length ≤ 1000 := by rw [HBL.out, List.length_take]; omega
      generalize hBT : batchT (l.take i) = BT at *
      obtain ⟨⟨a1, a2, a3, lb, pa, st, rc, tx, me, ne, K⟩, L, ta⟩ := t
      have hR2 := rangeAt_keep hR hg hb
      obtain ⟨ka, kc, rfl⟩ := h1.form
      obtain ⟨ma, mc, rfl⟩ := h2.form
      unfold tcs at hR2
      simp only at hR2 h1 h2
      have q1 := fun W (hbx : Below w.heap.size w W) => tr_encode a1 a2 a3 lb pa st rc tx me ne K _ L _ ta W (h1.keep hbx) (h2.keep hbx) (HK.out.keep hbx)
      have hsr := hb.size
      clear hR h1 h2 p1 p2 hg hBT
      go_wp2_with (first | (refine wpList_rowLoadAt row_trust rfl (.tmp 20) rfl rfl rfl hR2 ?_) | (refine wpList_rowStore row_trust rfl rfl (.tmp 7) (.tmp 21) rfl rfl rfl (vs := [.int .i64 (a1), .int .i64 (a2), .int .i64 (a3), .bool lb, .string ⟨List.toArray (pa)⟩, .string ⟨List.toArray (st)⟩, .string ⟨List.toArray (rc)⟩, .string ⟨List.toArray (tx)⟩, .string ⟨List.toArray (me)⟩, .string ⟨List.toArray (ne)⟩, .slice ka K.length kc, .slice ma L.length mc, .int .i64 (ta)]) rfl (by simp [Value.oneCell']) (us := [.int .i64 (0), .int .i64 (0), .int .i64 (0), .bool false, .string ⟨List.toArray ([])⟩, .string ⟨List.toArray ([])⟩, .string ⟨List.toArray ([])⟩, .string ⟨List.toArray ([])⟩, .string ⟨List.toArray ([])⟩, .string ⟨List.toArray ([])⟩, .slice none 0 0, .slice none 0 0, .int .i64 (0)]) rfl (Blk.new' (by simp)) ?_; intro w2 N2 m2) | (refine wpList_rowLoad row_trust rfl (.tmp 7) rfl rfl (vs := [.int .i64 (a1), .int .i64 (a2), .int .i64 (a3), .bool lb, .string ⟨List.toArray (pa)⟩, .string ⟨List.toArray (st)⟩, .string ⟨List.toArray (rc)⟩, .string ⟨List.toArray (tx)⟩, .string ⟨List.toArray (me)⟩, .string ⟨List.toArray (ne)⟩, .slice ka K.length kc, .slice ma L.length mc, .int .i64 (ta)]) rfl N2 ?_))
      have hb0 := Below.allocS hb (.cells #[.int .i64 (0), .int .i64 (0), .int .i64 (0), .bool false, .string ⟨List.toArray ([])⟩, .string ⟨List.toArray ([])⟩, .string ⟨List.toArray ([])⟩, .string ⟨List.toArray ([])⟩, .string ⟨List.toArray ([])⟩, .string ⟨List.toArray ([])⟩, .slice none 0 0, .slice none 0 0, .int .i64 (0)] 27)
      have hb2 := Below.mod hb0 m2 hb0.size (by simp; omega)
      have hS2 : SRow w2 w.heap.size (.slice sa BT.length sc) BT := (hS.keep (Below.allocS (Below.refl _ _) _)).kept (fun k hk => m2.block k (by have := hS.at_lt hk; simp; omega) (by have := hS.at_lt hk; simp; omega))
      refine (q1 _ hb2).mono ?_
      rintro e w3 ⟨rfl, hbx⟩
      have hb3 := hb2.trans (hbx.mono hb2.size)
      have hS3 := hS2.keep hbx
      have hs3 := hb3.size
      clear q1 hS hS2 hb hb0 hb2 hR2 N2 m2 hbx
      cases hfb : fineT ⟨⟨a1, a2, a3, lb, pa, st, rc, tx, me, ne, K⟩, L, ta⟩
      · rw [encTR_no hfb]
        have hbad := HFS.out hfb
        clear hfb
        go_wp2_with fail
        all_goals (go_ret; rw [addD_bad hbad]; exact ⟨m, rfl, HB0.out.keep hb3, HTM.out.keep hb3, HD.out.keep hb3, HJ.out.keep hb3, Mod.of_below hb3⟩)
      · rw [encTR_yes hfb]
        have HFY2 := Lib.hid (HFY.out hfb HF.out)
        clear hfb
        generalize writT ⟨⟨a1, a2, a3, lb, pa, st, rc, tx, me, ne, K⟩, L, ta⟩ = X at *
        have k1 : ¬ 9223372036854775807 < 1 + X.length := by omega
        have hS4 : SS (w3.alloc (.cells #[.string ⟨List.toArray (1 :: X)⟩] 9)) (.slice (some ⟨w3.heap.size, 0, none⟩) 1 1) [1 :: X] := SS.of (l := [1 :: X]) (by simp) (by unfold maxLen; omega) (by simp) (ssrc1 _ _ _)
        go_wp2_with (first | (at_builtin; refine wpList_appS rfl (.tmp 30) (.tmp 33) rfl w.heap.size _ BT rfl (hS3.alloc _) w3.heap.size 0 1 1 [1 :: X] rfl rfl (ssrc1 _ _ _) (by omega) (by simp; omega) ?_; rintro v5 w5 hS5 hb5))
        refine ⟨⟨i + 1, by omega, by go_num, by rw [HSN.out]; exact hS5, HFY2, (Below.allocS hb3 _).trans hb5⟩, by simp [intOf]; omega⟩
    · have hil : i = l.length := by omega
      subst hil
      rw [List.take_length] at hS HF
      have q2 := tclone_any base m T wr (HTM.out.keep hb)
      have B1 := HB0.out.keep hb
      obtain ⟨b1, b2, b3⟩ := id B1
      go_wp2_with fail
      refine q2.mono ?_
      rintro e w1 ⟨rfl, hM1, _, hbx⟩
      obtain ⟨m', hm'⟩ : ∃ m', m' = wr.heap.size := ⟨_, rfl⟩
      rw [← hm'] at hM1 ⊢
      have hmw : w.heap.size ≤ m' := by have := hb.size; omega
      have hS1 := hS.keep hbx
      have hb1 := hb.trans (hbx.mono hb.size)
      have hml := hM1.lt
      clear q2 hm' hS hb hbx B1 b1 b2 b3
      have HBL := Lib.hid (batch_len l)
      generalize hBT : batchT l = BT at *
      obtain ⟨ba, bc, hbv⟩ := hS1.form
      clear hi hlt
      go_wp2_with fail
      go_loopw [43] (fun s43 wr => ∃ (i : Nat) (Ti : List (Int × Tr)), i ≤ l.length ∧ s43 = .int .i64 (i) ∧ TrM wr base m' Ti ∧ Hid (addsT l T = addsT (l.drop i) Ti) ∧ Ti.length ≤ T.length + i ∧ SRow wr w.heap.size (.slice sa BT.length sc) BT ∧ Below w.heap.size w wr) (fun s43 _ => l.length - (intOf s43).toNat)
      case atStart => exact ⟨0, T, by omega, rfl, hM1, Lib.hid (by rw [List.drop_zero]), by omega, hS1, hb1⟩
      case round =>
        obtain ⟨i, Ti, hi, rfl, hMr, HA, hTl, hSr, hbr⟩ := hrel
        clear hM1 hS1 hb1 hml
        by_cases hlt : i < l.length
        · have hbd : 0 ≤ (i : Int) ∧ (i : Int) < (l.length : Int) := by omega
          obtain ⟨t, ht⟩ : ∃ t, l[i]? = some t := ⟨l[i], List.getElem?_eq_getElem hlt⟩
          obtain ⟨g, off, sk, ms, rfl, hg, hR, h1, h2, p1, p2⟩ := HV.out.at i t ht
          obtain ⟨l1, l2, l3⟩ := HCL.out t (List.mem_of_getElem? ht)
          have HDR := Lib.hid (dropT l i t ht)
          clear ht
          obtain ⟨⟨a1, a2, a3, lb, pa, st, rc, tx, me, ne, K⟩, L, ta⟩ := t
          have hR2 := rangeAt_keep hR hg hbr
          obtain ⟨ka, kc, rfl⟩ := h1.form
          obtain ⟨ma, mc, rfl⟩ := h2.form
          unfold tcs at hR2
          simp only at hR2 h1 h2 l1 l2 l3
          have hsr := hbr.size
          have q4 := fun W (hbx : Below w.heap.size w W) => tr_own a1 a2 a3 lb pa st rc tx me ne K L ta _ _ W (h1.keep hbx) (h2.keep hbx) p1 p2 l1 l2
          clear hR p1 p2 hg
          by_cases hin : a1 ∈ hts Ti
          · obtain ⟨⟨⟨d1, d2, d3, eb, pb, su, rd, ty, mf, nf, K2⟩, L2, tb⟩, ho⟩ : ∃ o, (a1, o) ∈ Ti := by
              obtain ⟨e, he, e1⟩ := List.mem_map.1 hin
              exact ⟨e.2, by rw [← e1]; exact he⟩
            have hcc := clashT_there (t := ⟨⟨a1, a2, a3, lb, pa, st, rc, tx, me, ne, K⟩, L, ta⟩) hMr.nodup ho
            have q3 := fun (u v : Value) (W : World) (hu : TV W u ⟨⟨d1, d2, d3, eb, pb, su, rd, ty, mf, nf, K2⟩, L2, tb⟩) (hv : TV W v ⟨⟨a1, a2, a3, lb, pa, st, rc, tx, me, ne, K⟩, L, ta⟩) => tr_same u v _ _ W hu hv
            simp only at hcc q3
            generalize decide ((encHR (⟨d1, d2, d3, eb, pb, su, rd, ty, mf, nf, K2⟩ : Hd)).1 = (encHR (⟨a1, a2, a3, lb, pa, st, rc, tx, me, ne, K⟩ : Hd)).1) = sm at *
            have HCC := Lib.hid hcc
            clear hcc
            go_wp2_with (first | (refine wpList_rowLoadAt row_trust rfl (.tmp 45) rfl rfl rfl hR2 ?_) | (refine wpList_rowStore row_trust rfl rfl (.tmp 12) (.tmp 46) rfl rfl rfl (vs := [.int .i64 (a1), .int .i64 (a2), .int .i64 (a3), .bool lb, .string ⟨List.toArray (pa)⟩, .string ⟨List.toArray (st)⟩, .string ⟨List.toArray (rc)⟩, .string ⟨List.toArray (tx)⟩, .string ⟨List.toArray (me)⟩, .string ⟨List.toArray (ne)⟩, .slice ka K.length kc, .slice ma L.length mc, .int .i64 (ta)]) rfl (by simp [Value.oneCell']) (us := [.int .i64 (0), .int .i64 (0), .int .i64 (0), .bool false, .string ⟨List.toArray ([])⟩, .string ⟨List.toArray ([])⟩, .string ⟨List.toArray ([])⟩, .string ⟨List.toArray ([])⟩, .string ⟨List.toArray ([])⟩, .string ⟨List.toArray ([])⟩, .slice none 0 0, .slice none 0 0, .int .i64 (0)]) rfl (Blk.new' (by simp)) ?_; intro w2 N2 m2; obtain ⟨b1, b2, b3⟩ := id N2; have hbn := Below.mod (Below.allocS (Below.refl wr.heap.size wr) (.cells #[.int .i64 (0), .int .i64 (0), .int .i64 (0), .bool false, .string ⟨List.toArray ([])⟩, .string ⟨List.toArray ([])⟩, .string ⟨List.toArray ([])⟩, .string ⟨List.toArray ([])⟩, .string ⟨List.toArray ([])⟩, .string ⟨List.toArray ([])⟩, .slice none 0 0, .slice none 0 0, .int .i64 (0)] 27)) m2 (by simp) (by simp); obtain ⟨v, hrun, hov, _⟩ := (hMr.keep hbn).look a1 l3; rw [decide_eq_true hin] at hrun; obtain ⟨sk2, ms2, rfl, r1, r2⟩ := hov _ ho; simp only at hrun r1 r2; obtain ⟨va, vc, rfl⟩ := r1.form; obtain ⟨ua, uc, rfl⟩ := r2.form) | (refine wpList_rowStore row_trust rfl rfl (.tmp 13) (.tmp 53) rfl rfl rfl (vs := [.int .i64 (d1), .int .i64 (d2), .int .i64 (d3), .bool eb, .string ⟨List.toArray (pb)⟩, .string ⟨List.toArray (su)⟩, .string ⟨List.toArray (rd)⟩, .string ⟨List.toArray (ty)⟩, .string ⟨List.toArray (mf)⟩, .string ⟨List.toArray (nf)⟩, .slice va K2.length vc, .slice ua L2.length uc, .int .i64 (tb)]) rfl (by simp [Value.oneCell']) (us := [.int .i64 (0), .int .i64 (0), .int .i64 (0), .bool false, .string ⟨List.toArray ([])⟩, .string ⟨List.toArray ([])⟩, .string ⟨List.toArray ([])⟩, .string ⟨List.toArray ([])⟩, .string ⟨List.toArray ([])⟩, .string ⟨List.toArray ([])⟩, .slice none 0 0, .slice none 0 0, .int .i64 (0)]) rfl (Blk.new' (by simp)) ?_; intro w4 N4 m4; have N5 := (N2.alloc (.cells #[.int .i64 (0), .int .i64 (0), .int .i64 (0), .bool false, .string ⟨List.toArray ([])⟩, .string ⟨List.toArray ([])⟩, .string ⟨List.toArray ([])⟩, .string ⟨List.toArray ([])⟩, .string ⟨List.toArray ([])⟩, .string ⟨List.toArray ([])⟩, .slice none 0 0, .slice none 0 0, .int .i64 (0)] 27)).mod m4 (by simp; omega)) | (refine wpList_rowLoadG row_trust ?hw (.tmp 13) rfl rfl (vs := [.int .i64 (d1), .int .i64 (d2), .int .i64 (d3), .bool eb, .string ⟨List.toArray (pb)⟩, .string ⟨List.toArray (su)⟩, .string ⟨List.toArray (rd)⟩, .string ⟨List.toArray (ty)⟩, .string ⟨List.toArray (mf)⟩, .string ⟨List.toArray (nf)⟩, .slice va K2.length vc, .slice ua L2.length uc, .int .i64 (tb)]) rfl N4 ?_; (case hw => rfl)) | (refine wpList_rowLoadG row_trust ?hw (.tmp 12) rfl rfl (vs := [.int .i64 (a1), .int .i64 (a2), .int .i64 (a3), .bool lb, .string ⟨List.toArray (pa)⟩, .string ⟨List.toArray (st)⟩, .string ⟨List.toArray (rc)⟩, .string ⟨List.toArray (tx)⟩, .string ⟨List.toArray (me)⟩, .string ⟨List.toArray (ne)⟩, .slice ka K.length kc, .slice ma L.length mc, .int .i64 (ta)]) rfl N5 ?_; (case hw => rfl)))
            have hbm := Below.mod (Below.allocS (Below.refl w2.heap.size w2) (.cells #[.int .i64 (0), .int .i64 (0), .int .i64 (0), .bool false, .string ⟨List.toArray ([])⟩, .string ⟨List.toArray ([])⟩, .string ⟨List.toArray ([])⟩, .string ⟨List.toArray ([])⟩, .string ⟨List.toArray ([])⟩, .string ⟨List.toArray ([])⟩, .slice none 0 0, .slice none 0 0, .int .i64 (0)] 27)) m4 (by simp) (by simp)
            have hbq := hbn.trans (hbm.mono hbn.size)
            have hb4 := hbr.trans (hbq.mono hbr.size)
            refine (q3 _ _ w4 ⟨_, _, rfl, (r1.keep hbm).ss, (r2.keep hbm).ms⟩ ⟨_, _, rfl, h1.keep hb4, h2.keep hb4⟩).mono ?_
            rintro e w5 ⟨rfl, hbx⟩
            have hM5 := (hMr.keep hbq).keep hbx
            have hS5 := (hSr.keep hbq).keep hbx
            have hb5 := hb4.trans (hbx.mono hb4.size)
            have hs5 := hb5.size
            have hs6 := hbq.size
            have hs7 := hbx.size
            have hbs := HBASE.out
            have hml := hMr.lt
            replace N5 := N5.keep hbx
            clear hrun hMr hSr hbn hbm hbq N2 N4 m2 m4 b1 b2 b3 hR2 hbr hbx hb4 hov r1 r2 q3 h1 h2
            cases sm
            · have HNO : Hid (addsT l T = none) := Lib.hid (by rw [HA.out, HDR.out]; exact addsT_clash HCC.out)
              have hMo := HTM.out.keep hb5
              have hBo := HB0.out.keep hb5
              have hDo := HD.out.keep hb5
              have hJo := HJ.out.keep hb5
              clear q4
              go_wp2_with fail
              all_goals (go_ret; rw [addD_there HF.out HNO.out]; exact ⟨m, rfl, hBo, hMo, hDo, hJo, Mod.of_below hb5⟩)
            · have HA2 : Hid (addsT l T = addsT (l.drop (i + 1)) (putK Ti a1 ⟨⟨a1, a2, a3, lb, pa, st, rc, tx, me, ne, K⟩, L, ta⟩)) := Lib.hid (by rw [HA.out, HDR.out]; exact addsT_step HCC.out)
              go_wp2_with fail
              refine wpH_startM [m'] (by kernel_rfl) (fun hS => ?_)
              (refine wpH_pure 0 ?_ (oi := { dst := some 62, op := Op.move (Operand.tmp 10), type := 120, pos := "store.go:90", after := #[], guard := none }) rfl (by kernel_rfl) (by kernel_rfl) (by kernel_rfl) (by rfl) hS (fun _ _ _ h => h) ?_ ?_; rotate_left; focus (intro w; go_simp; try with_reducible rfl))
              try simp only [Act.put, List.setIfInBounds_toArray, List.set_cons_zero, List.set_cons_succ]
              (refine wpH_pure 1 ?_ (oi := { dst := some 63, op := Op.fieldAddr 27 (Operand.tmp 12) 0, type := 0, pos := "store.go:90", after := #[], guard := none }) rfl (by kernel_rfl) (by kernel_rfl) (by kernel_rfl) (by rfl) hS (fun _ _ _ h => h) ?_ ?_; rotate_left; focus (intro w; go_simp; try with_reducible rfl))
              try simp only [Act.put, List.setIfInBounds_toArray, List.set_cons_zero, List.set_cons_succ]
              (refine wpH_pure 2 ?_ (oi := { dst := some 64, op := Op.fieldAddr 24 (Operand.tmp 63) 0, type := 0, pos := "store.go:90", after := #[{ on := 1, ground := Ground.data }], guard := none }) rfl (by kernel_rfl) (by kernel_rfl) (by kernel_rfl) (by rfl) hS (fun _ _ _ h => h) ?_ ?_; rotate_left; focus (intro w; go_simp; try with_reducible rfl))
              try simp only [Act.put, List.setIfInBounds_toArray, List.set_cons_zero, List.set_cons_succ]
              refine wpH_load 3 (.int .i64 (a1)) (oi := { dst := some 65, op := Op.load 3 (Operand.tmp 64), type := 3, pos := "store.go:90", after := #[{ on := 2, ground := Ground.data }], guard := none }) rfl (by kernel_rfl) (by kernel_rfl) (by kernel_rfl) (by rfl) hS (fun _ _ _ h => h) (fun w hb2 => (by have c := (N5.mod hb2 (by simp; omega)).cell 0; go_simp; try rfl)) ?_
              try simp only [Act.put, List.setIfInBounds_toArray, List.set_cons_zero, List.set_cons_succ]
              refine wpH_row row_trust 4 (oi := { dst := some 66, op := Op.load 27 (Operand.tmp 12), type := 27, pos := "store.go:90", after := #[], guard := none }) rfl (by kernel_rfl) (by kernel_rfl) (by kernel_rfl) (by rfl) hS (vs := [.int .i64 (a1), .int .i64 (a2), .int .i64 (a3), .bool lb, .string ⟨List.toArray (pa)⟩, .string ⟨List.toArray (st)⟩, .string ⟨List.toArray (rc)⟩, .string ⟨List.toArray (tx)⟩, .string ⟨List.toArray (me)⟩, .string ⟨List.toArray (ne)⟩, .slice ka K.length kc, .slice ma L.length mc, .int .i64 (ta)]) (fun _ _ _ h => h) (.tmp 12) rfl rfl (rfl) (fun w hb2 => N5.mod hb2 (by simp; omega)) ?_
              try simp only [Act.put, List.setIfInBounds_toArray, List.set_cons_zero, List.set_cons_succ]
              refine wpH_call 5 (oi := { dst := some 67, op := Op.call { callee := Callee.value (Operand.func 72), args := #[Operand.tmp 66], argTypes := #[27] }, type := 27, pos := "store.go:90", after := #[{ on := 4, ground := Ground.data }], guard := none }) rfl (by kernel_rfl) (by rfl) (q4 _ (Below.mod hb5 hS hs5 (by simp; omega))) ?_ ?_
              · (go_simp; try rfl)
              rintro e w' ⟨v7, rfl, hvr, hbx⟩
              refine ⟨_, rfl, hS.trans (Mod.of_below hbx), ?_⟩
              replace hS := hS.trans (Mod.of_below hbx)
              try simp only [Act.put, List.setIfInBounds_toArray, List.set_cons_zero, List.set_cons_succ]
              refine wpH_op 6 (oi := { dst := none, op := Op.mapUpdate 120 (Operand.tmp 62) (Operand.tmp 65) (Operand.tmp 67), type := 0, pos := "store.go:90", after := #[{ on := 0, ground := Ground.data }, { on := 3, ground := Ground.data }, { on := 5, ground := Ground.data }, { on := 5, ground := Ground.chain }, { on := 0, ground := Ground.phase }, { on := 1, ground := Ground.phase }, { on := 2, ground := Ground.phase }, { on := 3, ground := Ground.phase }, { on := 4, ground := Ground.phase }, { on := 5, ground := Ground.phase }], guard := none }) rfl (by kernel_rfl) (by rfl) ?_
              have hM6 := hM5.drew.keep hbx
              have hS6 := hS5.drew.keep hbx
              obtain ⟨es6, c6, hblk⟩ := hM6.block
              refine wp_mapT (.tmp 62) (.tmp 65) (.tmp 67) rfl rfl hM6 (by omega) a1 l3 rfl rfl (hvr.low (show base ≤ w5.heap.size from by omega)) ?_
              rintro w7 hM7 hg7
              have hS7 := hS6.grown hblk hg7
              have m7 : Mod [m'] _ w7 := hS.trans (grown_mod hg7)
              refine ⟨m7, ?_⟩
              try simp only [Act.put, List.setIfInBounds_toArray, List.set_cons_zero, List.set_cons_succ]
              refine wpAnyH_done (by kernel_rfl) ?_ _
              have hb7 := Below.mod hb5 m7 hs5 (by simp; omega)
              clear hM6 hS6 hblk hg7 hbx hS q4 hM5 hS5 N5 hb5
              go_wp2_with fail
              exact ⟨⟨i + 1, putK Ti a1 ⟨⟨a1, a2, a3, lb, pa, st, rc, tx, me, ne, K⟩, L, ta⟩, by omega, by go_num, hM7, HA2, by have := putK_len Ti a1 ⟨⟨a1, a2, a3, lb, pa, st, rc, tx, me, ne, K⟩, L, ta⟩; omega, hS7, hb7⟩, by simp [intOf]; omega⟩
          · go_wp2_with (first | (refine wpList_rowLoadAt row_trust rfl (.tmp 45) rfl rfl rfl hR2 ?_) | (refine wpList_rowStore row_trust rfl rfl (.tmp 12) (.tmp 46) rfl rfl rfl (vs := [.int .i64 (a1), .int .i64 (a2), .int .i64 (a3), .bool lb, .string ⟨List.toArray (pa)⟩, .string ⟨List.toArray (st)⟩, .string ⟨List.toArray (rc)⟩, .string ⟨List.toArray (tx)⟩, .string ⟨List.toArray (me)⟩, .string ⟨List.toArray (ne)⟩, .slice ka K.length kc, .slice ma L.length mc, .int .i64 (ta)]) rfl (by simp [Value.oneCell']) (us := [.int .i64 (0), .int .i64 (0), .int .i64 (0), .bool false, .string ⟨List.toArray ([])⟩, .string ⟨List.toArray ([])⟩, .string ⟨List.toArray ([])⟩, .string ⟨List.toArray ([])⟩, .string ⟨List.toArray ([])⟩, .string ⟨List.toArray ([])⟩, .slice none 0 0, .slice none 0 0, .int .i64 (0)]) rfl (Blk.new' (by simp)) ?_; intro w2 N2 m2; obtain ⟨b1, b2, b3⟩ := id N2; have hbn := Below.mod (Below.allocS (Below.refl wr.heap.size wr) (.cells #[.int .i64 (0), .int .i64 (0), .int .i64 (0), .bool false, .string ⟨List.toArray ([])⟩, .string ⟨List.toArray ([])⟩, .string ⟨List.toArray ([])⟩, .string ⟨List.toArray ([])⟩, .string ⟨List.toArray ([])⟩, .string ⟨List.toArray ([])⟩, .slice none 0 0, .slice none 0 0, .int .i64 (0)] 27)) m2 (by simp) (by simp); obtain ⟨v, hrun, _, hnv⟩ := (hMr.keep hbn).look a1 l3; rw [decide_eq_false hin] at hrun; obtain rfl := hnv hin) | (refine wpList_rowStore row_trust rfl rfl (.tmp 13) (.tmp 53) rfl rfl rfl (vs := [.int .i64 (0), .int .i64 (0), .int .i64 (0), .bool false, .string ⟨List.toArray ([])⟩, .string ⟨List.toArray ([])⟩, .string ⟨List.toArray ([])⟩, .string ⟨List.toArray ([])⟩, .string ⟨List.toArray ([])⟩, .string ⟨List.toArray ([])⟩, .slice none 0 0, .slice none 0 0, .int .i64 (0)]) rfl (by simp [Value.oneCell']) (us := [.int .i64 (0), .int .i64 (0), .int .i64 (0), .bool false, .string ⟨List.toArray ([])⟩, .string ⟨List.toArray ([])⟩, .string ⟨List.toArray ([])⟩, .string ⟨List.toArray ([])⟩, .string ⟨List.toArray ([])⟩, .string ⟨List.toArray ([])⟩, .slice none 0 0, .slice none 0 0, .int .i64 (0)]) rfl (Blk.new' (by simp)) ?_; intro w4 N4 m4))
            have HA2 : Hid (addsT l T = addsT (l.drop (i + 1)) (putK Ti a1 ⟨⟨a1, a2, a3, lb, pa, st, rc, tx, me, ne, K⟩, L, ta⟩)) := Lib.hid (by rw [HA.out, HDR.out]; exact addsT_step (clashT_new hin))
            have N5 := (N2.alloc (.cells #[.int .i64 (0), .int .i64 (0), .int .i64 (0), .bool false, .string ⟨List.toArray ([])⟩, .string ⟨List.toArray ([])⟩, .string ⟨List.toArray ([])⟩, .string ⟨List.toArray ([])⟩, .string ⟨List.toArray ([])⟩, .string ⟨List.toArray ([])⟩, .slice none 0 0, .slice none 0 0, .int .i64 (0)] 27)).mod m4 (by simp; omega)
            have hbm := Below.mod (Below.allocS (Below.refl w2.heap.size w2) (.cells #[.int .i64 (0), .int .i64 (0), .int .i64 (0), .bool false, .string ⟨List.toArray ([])⟩, .string ⟨List.toArray ([])⟩, .string ⟨List.toArray ([])⟩, .string ⟨List.toArray ([])⟩, .string ⟨List.toArray ([])⟩, .string ⟨List.toArray ([])⟩, .slice none 0 0, .slice none 0 0, .int .i64 (0)] 27)) m4 (by simp) (by simp)
            have hbq := hbn.trans (hbm.mono hbn.size)
            have hM5 := hMr.keep hbq
            have hS5 := hSr.keep hbq
            have hb5 := hbr.trans (hbq.mono hbr.size)
            have hs5 := hb5.size
            have hs6 := hbq.size
            have hbs := HBASE.out
            have hml := hMr.lt
            clear hrun hMr hSr hbn hbm hbq N2 N4 m2 m4 b1 b2 b3 hR2 hnv hbr
            refine wpH_startM [m'] (by kernel_rfl) (fun hS => ?_)
            (refine wpH_pure 0 ?_ (oi := { dst := some 62, op := Op.move (Operand.tmp 10), type := 120, pos := "store.go:90", after := #[], guard := none }) rfl (by kernel_rfl) (by kernel_rfl) (by kernel_rfl) (by rfl) hS (fun _ _ _ h => h) ?_ ?_; rotate_left; focus (intro w; go_simp; try with_reducible rfl))
            try simp only [Act.put, List.setIfInBounds_toArray, List.set_cons_zero, List.set_cons_succ]
            (refine wpH_pure 1 ?_ (oi := { dst := some 63, op := Op.fieldAddr 27 (Operand.tmp 12) 0, type := 0, pos := "store.go:90", after := #[], guard := none }) rfl (by kernel_rfl) (by kernel_rfl) (by kernel_rfl) (by rfl) hS (fun _ _ _ h => h) ?_ ?_; rotate_left; focus (intro w; go_simp; try with_reducible rfl))
            try simp only [Act.put, List.setIfInBounds_toArray, List.set_cons_zero, List.set_cons_succ]
            (refine wpH_pure 2 ?_ (oi := { dst := some 64, op := Op.fieldAddr 24 (Operand.tmp 63) 0, type := 0, pos := "store.go:90", after := #[{ on := 1, ground := Ground.data }], guard := none }) rfl (by kernel_rfl) (by kernel_rfl) (by kernel_rfl) (by rfl) hS (fun _ _ _ h => h) ?_ ?_; rotate_left; focus (intro w; go_simp; try with_reducible rfl))
            try simp only [Act.put, List.setIfInBounds_toArray, List.set_cons_zero, List.set_cons_succ]
            refine wpH_load 3 (.int .i64 (a1)) (oi := { dst := some 65, op := Op.load 3 (Operand.tmp 64), type := 3, pos := "store.go:90", after := #[{ on := 2, ground := Ground.data }], guard := none }) rfl (by kernel_rfl) (by kernel_rfl) (by kernel_rfl) (by rfl) hS (fun _ _ _ h => h) (fun w hb2 => (by have c := (N5.mod hb2 (by simp; omega)).cell 0; go_simp; try rfl)) ?_
            try simp only [Act.put, List.setIfInBounds_toArray, List.set_cons_zero, List.set_cons_succ]
            refine wpH_row row_trust 4 (oi := { dst := some 66, op := Op.load 27 (Operand.tmp 12), type := 27, pos := "store.go:90", after := #[], guard := none }) rfl (by kernel_rfl) (by kernel_rfl) (by kernel_rfl) (by rfl) hS (vs := [.int .i64 (a1), .int .i64 (a2), .int .i64 (a3), .bool lb, .string ⟨List.toArray (pa)⟩, .string ⟨List.toArray (st)⟩, .string ⟨List.toArray (rc)⟩, .string ⟨List.toArray (tx)⟩, .string ⟨List.toArray (me)⟩, .string ⟨List.toArray (ne)⟩, .slice ka K.length kc, .slice ma L.length mc, .int .i64 (ta)]) (fun _ _ _ h => h) (.tmp 12) rfl rfl (rfl) (fun w hb2 => N5.mod hb2 (by simp; omega)) ?_
            try simp only [Act.put, List.setIfInBounds_toArray, List.set_cons_zero, List.set_cons_succ]
            refine wpH_call 5 (oi := { dst := some 67, op := Op.call { callee := Callee.value (Operand.func 72), args := #[Operand.tmp 66], argTypes := #[27] }, type := 27, pos := "store.go:90", after := #[{ on := 4, ground := Ground.data }], guard := none }) rfl (by kernel_rfl) (by rfl) (q4 _ (Below.mod hb5 hS hs5 (by simp; omega))) ?_ ?_
            · (go_simp; try rfl)
            rintro e w' ⟨v7, rfl, hvr, hbx⟩
            refine ⟨_, rfl, hS.trans (Mod.of_below hbx), ?_⟩
            replace hS := hS.trans (Mod.of_below hbx)
            try simp only [Act.put, List.setIfInBounds_toArray, List.set_cons_zero, List.set_cons_succ]
            refine wpH_op 6 (oi := { dst := none, op := Op.mapUpdate 120 (Operand.tmp 62) (Operand.tmp 65) (Operand.tmp 67), type := 0, pos := "store.go:90", after := #[{ on := 0, ground := Ground.data }, { on := 3, ground := Ground.data }, { on := 5, ground := Ground.data }, { on := 5, ground := Ground.chain }, { on := 0, ground := Ground.phase }, { on := 1, ground := Ground.phase }, { on := 2, ground := Ground.phase }, { on := 3, ground := Ground.phase }, { on := 4, ground := Ground.phase }, { on := 5, ground := Ground.phase }], guard := none }) rfl (by kernel_rfl) (by rfl) ?_
            have hM6 := hM5.drew.keep hbx
            have hS6 := hS5.drew.keep hbx
            obtain ⟨es6, c6, hblk⟩ := hM6.block
            refine wp_mapT (.tmp 62) (.tmp 65) (.tmp 67) rfl rfl hM6 (by omega) a1 l3 rfl rfl (hvr.low (show base ≤ w4.heap.size from by omega)) ?_
            rintro w7 hM7 hg7
            have hS7 := hS6.grown hblk hg7
            have m7 : Mod [m'] _ w7 := hS.trans (grown_mod hg7)
            refine ⟨m7, ?_⟩
            try simp only [Act.put, List.setIfInBounds_toArray, List.set_cons_zero, List.set_cons_succ]
            refine wpAnyH_done (by kernel_rfl) ?_ _
            have hb7 := Below.mod hb5 m7 hs5 (by simp; omega)
            clear hM6 hS6 hblk hg7 hbx hS q4 hM5 hS5 N5 hb5
            go_wp2_with fail
            exact ⟨⟨i + 1, putK Ti a1 ⟨⟨a1, a2, a3, lb, pa, st, rc, tx, me, ne, K⟩, L, ta⟩, by omega, by go_num, hM7, HA2, by have := putK_len Ti a1 ⟨⟨a1, a2, a3, lb, pa, st, rc, tx, me, ne, K⟩, L, ta⟩; omega, hS7, hb7⟩, by simp [intOf]; omega⟩
        · have hil : i = l.length := by omega
          subst hil
          have HY : Hid (addsT l T = some Ti) := Lib.hid (by rw [HA.out, List.drop_length]; rfl)
          have hMo := HTM.out.keep hbr
          have hBo := HB0.out.keep hbr
          have hDo := HD.out.keep hbr
          have hJo := HJ.out.keep hbr
          have hKo := HK.out.keep hbr
          have hbs := HBASE.out
          have hsr := hbr.size
          have hml := hMr.lt
          have hJ : m ≠ p ∧ m ≠ j := by
            obtain ⟨es, c, hbl⟩ := hMo.block
            obtain ⟨vx, _, hx2⟩ := hDo.row
            exact ⟨hx2.notmap rfl hbl, hJo.notmap rfl hbl⟩
          clear hi hlt HA
          by_cases hnl : l = []
          · subst hnl
            obtain rfl : BT = [] := hBT.symm
            have q5 := twrite_nil q sa sc wr
            have B6 : Blk (wr.setCell ⟨q, 0, none⟩ (.map (some m'))) q #[.map (some m'), .int .i64 (span), .pointer (some ⟨j, 0, none⟩)] := by simpa using hBo.set 0 (.map (some m'))
            have m6 := (Mod.refl [q] wr).setCell (p := ⟨q, 0, none⟩) (.inl (by simp)) (.map (some m'))
            have hM6 := hMr.modl m6 (by simp; omega) (by simp; omega)
            have hJ6 := hJo.mod m6 (by simp; omega)
            have hD6 : DkV (wr.setCell ⟨q, 0, none⟩ (.map (some m'))) av p d := by
              obtain ⟨vx, hx1, hx2⟩ := hDo.row
              exact ⟨hDo.lt, vx, hx1.mod m6 hqa, hx2.mod m6 (by simp; omega)⟩
            have hmm := (Mod.of_below (l := [p, j, q]) hbr).trans (m6.sub (by simp))
            obtain ⟨b1, b2, b3⟩ := id hBo
            clear hMr hSr hDo hJo hKo hMo m6
            go_wp2_with fail
            refine q5.mono ?_
            rintro e w6 ⟨rfl, rfl⟩
            go_wp2_with fail
            go_ret
            rw [addD_none HY.out]
            exact ⟨m', rfl, B6, hM6, hD6, hJ6, hmm⟩
          · have hBTn : BT ≠ [] := by rw [← hBT]; unfold batchT; simpa using hnl
            have q5 := twrite_any av p j q (.map (some m)) span d (.slice sa BT.length sc) BT hBTn (by rw [HBL.out]; exact hn) HM.out hf hrm hsl wr hKo hDo hJo hpj hja (fun x hx => Nat.lt_of_lt_of_le (HAV.out x hx) hsr) hBo hSr.ss
            have HYES := Lib.hid (addD_yes (d := d) HF.out HY.out hnl)
            have HNO := Lib.hid (addD_no (d := d) HF.out HY.out hnl)
            rw [hBT] at HYES HNO
            generalize writeD d BT = R at *
            obtain ⟨d2, c⟩ := R
            simp only at q5 HYES HNO
            clear hDo hJo hKo
            go_wp2_with fail
            refine q5.mono ?_
            rintro e w6 ⟨rfl, hD6, hJ6, m6⟩
            have B6 := hBo.mod m6 (by simp; omega)
            have hM6 := hMr.modl m6 (by simp; omega) (by simp; omega)
            have hMo6 := hMo.modl m6 (by simp; omega) (by simp; exact ⟨hJ.1, hJ.2⟩)
            have hmm := (Mod.of_below (l := [p, j, q]) hbr).trans (m6.sub (by simp))
            obtain ⟨b1, b2, b3⟩ := id B6
            clear hMr hSr hBo hMo m6 q5
            by_cases hc : c = 0
            · subst hc
              have HR := HYES.out rfl
              have B7 : Blk (w6.setCell ⟨q, 0, none⟩ (.map (some m'))) q #[.map (some m'), .int .i64 (span), .pointer (some ⟨j, 0, none⟩)] := by simpa using B6.set 0 (.map (some m'))
              have m7 := (Mod.refl [q] w6).setCell (p := ⟨q, 0, none⟩) (.inl (by simp)) (.map (some m'))
              have hM7 := hM6.modl m7 (by simp; omega) (by simp; omega)
              have hJ7 := hJ6.mod m7 (by simp; omega)
              have hD7 : DkV (w6.setCell ⟨q, 0, none⟩ (.map (some m'))) av p d2 := by
                obtain ⟨vx, hx1, hx2⟩ := hD6.row
                exact ⟨hD6.lt, vx, hx1.mod m7 hqa, hx2.mod m7 (by simp; omega)⟩
              have hmm7 := hmm.trans (m7.sub (by simp))
              clear hD6 hJ6 hM6 m7
              go_wp2_with fail
              go_ret
              rw [HR]
              exact ⟨m', rfl, B7, hM7, hD7, hJ7, hmm7⟩
            · have HR := HNO.out hc
              have hc1 : (c != 0) = true := by simpa using hc
              have hc2 : (c == 0) = false := by simpa using hc
              go_wp2_with fail
              all_goals (go_ret; rw [HR]; exact ⟨m, rfl, B6, hMo6, hD6, hJ6, hmm⟩)
end Go.Proofs.YthgjdaomcpinaaaGreatDoor

/- Plain: the chapter's example of what is trusted. -/
set_option linter.unusedSimpArgs false
set_option linter.unusedVariables false
namespace Go.Proofs.YthgjdaomcpinaaaGreatDoor
open Go.RowKit Pl

namespace Pl
theorem links_odd (h : Int) (h0 : 0 ≤ h) : linksF (2 * h + 1) = [] := by
  unfold linksF
  split
  · rfl
  · exact links_stop (k := 0) (by omega) 20
theorem ds_len : ds.length = 32 := by unfold ds; rw [List.length_replicate]
theorem oneA_ok : chkM oneA = true := by decide
theorem dgA_len : (dgM oneA).length = 32 := by
  unfold dgM
  rw [if_pos oneA_ok]
  exact tagP_len _ _
theorem some_fine (h now : Int) (h0 : 0 ≤ h) (h1 : h ≤ 500000) (n0 : 0 ≤ now) (n1 : now ≤ 1099511627776) : fineT (someT h now) = true := by
  have hl := links_odd h h0
  have h2 := dgA_len
  have h3 := ds_len
  have h4 := oneA_ok
  unfold someT fineT fineH numsH firstH sumsH endH may32 inH
  simp only [hl]
  rw [if_pos (by omega), if_pos (by omega)]
  generalize dgM oneA = D at *
  generalize chkM oneA = c at *
  generalize ds = e at *
  simp only [h2, h3, h4, List.length_nil, List.all_nil, Bool.and_eq_true, Bool.or_eq_true, decide_eq_true_eq, true_and, and_true, true_or, or_true]
  refine ⟨⟨⟨⟨by omega, by omega⟩, by decide, by decide⟩, ?_⟩, by omega, by omega⟩
  simp
theorem some_len (h now : Int) : (writT (someT h now)).length ≤ 430 := by
  have h2 := dgA_len
  have h3 := ds_len
  have h4 := encM_len oneA oneA_ok
  unfold someT writT writH
  simp only
  generalize dgM oneA = D at *
  generalize encM oneA = E at *
  generalize ds = e at *
  have k1 := num_len' (2 * h + 1).toNat
  have k2 := num_len' (1 : Int).toNat
  have k3 := text_len e
  have k4 := text_len ([] : Bs)
  have k5 := text_len E
  have k6 := num_len' now.toNat
  have k7 := text_len (num (2 * h + 1).toNat ++ num (1 : Int).toNat ++ num (1 : Int).toNat ++ flagB true ++ text e ++ text [] ++ text [] ++ e ++ e ++ D ++ ([] : List Bs).flatten)
  have k8 : (flagB true).length = 1 := rfl
  simp only [List.length_append, List.flatten_nil, List.length_nil] at *
  omega
theorem listB_le (l : List Bs) (n : Nat) (h : ∀ x ∈ l, x.length ≤ n) : (listB l).length ≤ l.length * (n + 9) := by
  induction l with
  | nil => simp [listB]
  | cons x r ih =>
    have h1 := ih (fun y hy => h y (List.mem_cons_of_mem _ hy))
    have h2 := h x (List.mem_cons_self ..)
    have h3 := text_len x
    unfold listB
    rw [List.length_append, List.length_cons, Nat.add_mul, Nat.one_mul]
    omega
theorem rec_len (l : List Bs) (n : Nat) (h : ∀ x ∈ l, x.length ≤ n) : (recP l).length ≤ l.length * (n + 9) + 22 := by
  have h1 := listB_le l n h
  have h2 := num_len' l.length
  have h3 := text_len (encS l)
  have h4 : (encS l).length = (num l.length).length + (listB l).length := by unfold encS; rw [List.length_append]
  unfold recP
  rw [List.length_append, List.length_take]
  omega
theorem may_small (l : List Bs) (n : Nat) (h : ∀ x ∈ l, x.length ≤ n) (hl : l.length ≤ 1000) (hn : n ≤ 500) : mayR l = true := by
  have h1 := listB_le l n h
  have h2 := num_len' l.length
  have h4 : (encS l).length = (num l.length).length + (listB l).length := by unfold encS; rw [List.length_append]
  have h5 : l.length * (n + 9) ≤ 1000 * (n + 9) := Nat.mul_le_mul_right _ hl
  unfold mayR
  simp only [Bool.and_eq_true, decide_eq_true_eq, List.all_eq_true]
  exact ⟨⟨by omega, fun x hx => by have := h x hx; omega⟩, by omega⟩
theorem writeD_ok (d : Dk) (l : List Bs) (hd : d.down = false) (hf : d.fuse < 0) (hr : ((recP l).length : Int) ≤ d.room - (d.s.length : Int)) : writeD d l = (⟨d.s ++ recP l, ((d.s ++ recP l).length : Int), d.room, d.fuse, false⟩, 0) := by
  obtain ⟨s, safe, room, fuse, down⟩ := d
  simp only at hd hf hr
  subst hd
  have h1 : appD ⟨s, safe, room, fuse, false⟩ (recP l) = (⟨s ++ recP l, safe, room, fuse, false⟩, 0) := by
    unfold appD
    rw [burnt_neg hf]
    simp only
    rw [if_neg (by decide), if_neg (by omega), if_pos trivial]
  unfold writeD
  rw [h1]
  simp only
  rw [if_pos trivial]
  unfold syncD
  rw [burnt_neg (by simpa using hf)]
  simp
end Pl
end Go.Proofs.YthgjdaomcpinaaaGreatDoor

/- The chapter's example of what is trusted. The program's walk. -/
set_option linter.unusedSimpArgs false
set_option linter.unusedVariables false
namespace Go.Proofs.YthgjdaomcpinaaaGreatDoor
open Go.RowKit Go.WideMaps Go.Maps Go.Sort Go.Shelf Pl

theorem TL.one {w : World} {base : Nat} {t : Tr} {ka ma : Option Addr} {kc mc : Nat} (r1 : SRow w base (.slice ka t.head.skips.length kc) t.head.skips) (r2 : MRow w base (.slice ma t.set.length mc) t.set) :
    TL (w.alloc (.cells #[.int .i64 (t.head.height), .int .i64 (t.head.epoch), .int .i64 (t.head.view), .bool t.head.last, .string ⟨List.toArray (t.head.parent)⟩, .string ⟨List.toArray (t.head.state)⟩, .string ⟨List.toArray (t.head.receipts)⟩, .string ⟨List.toArray (t.head.txs)⟩, .string ⟨List.toArray (t.head.members)⟩, .string ⟨List.toArray (t.head.next)⟩, .slice ka t.head.skips.length kc, .slice ma t.set.length mc, .int .i64 (t.at_)] 27)) (.slice (some ⟨w.heap.size, 0, none⟩) 1 1) [t] := by
  have hb := Below.allocS (Below.refl w.heap.size w) (.cells #[.int .i64 (t.head.height), .int .i64 (t.head.epoch), .int .i64 (t.head.view), .bool t.head.last, .string ⟨List.toArray (t.head.parent)⟩, .string ⟨List.toArray (t.head.state)⟩, .string ⟨List.toArray (t.head.receipts)⟩, .string ⟨List.toArray (t.head.txs)⟩, .string ⟨List.toArray (t.head.members)⟩, .string ⟨List.toArray (t.head.next)⟩, .slice ka t.head.skips.length kc, .slice ma t.set.length mc, .int .i64 (t.at_)] 27)
  refine ⟨_, _, rfl, Nat.le_refl _, by unfold maxLen; omega, fun _ => ⟨_, 0, rfl, by simp, fun i t' hi => ?_⟩⟩
  have h0 : i = 0 := by
    have := (List.getElem?_eq_some_iff.1 hi).1
    simp at this
    exact this
  subst h0
  simp only [List.getElem?_cons_zero, Option.some.injEq] at hi
  subst hi
  refine ⟨_, _, ?_, (r1.keep hb).ss, (r2.keep hb).ms, (r1.keep hb).plain, (r2.keep hb).plain⟩
  intro j u hj
  have h1 := (Blk.new w #[.int .i64 (t.head.height), .int .i64 (t.head.epoch), .int .i64 (t.head.view), .bool t.head.last, .string ⟨List.toArray (t.head.parent)⟩, .string ⟨List.toArray (t.head.state)⟩, .string ⟨List.toArray (t.head.receipts)⟩, .string ⟨List.toArray (t.head.txs)⟩, .string ⟨List.toArray (t.head.members)⟩, .string ⟨List.toArray (t.head.next)⟩, .slice ka t.head.skips.length kc, .slice ma t.set.length mc, .int .i64 (t.at_)] 27).cell j
  rw [Nat.zero_mul, Nat.zero_add, h1, ← hj]
  simp [tcs]
set_option maxRecDepth 100000 in
set_option maxHeartbeats 8000000 in
theorem tworks_any (w : World) (hk : KT w) :
    Calls Tryz.prog 9 #[] w fun e w' => e = .returned (.bool true) ∧ Below w.heap.size w w' := by
  have q1 := dnew_any 1000 (by omega) (by omega) w
  go_enter Tryz.func9, Tryz.ntmps9
  go_wp2_with fail
  refine q1.mono ?_
  rintro e w1 ⟨rfl, hD, hb1⟩
  have q2 := topen_empty [w.heap.size] w.heap.size ⟨[], 0, 1000, -1, false⟩ 10 (by omega) (by omega) rfl (by simp) (by rfl) w1 hD
  rw [show (syncD ⟨[], 0, 1000, -1, false⟩).1 = ⟨[], 0, 1000, -1, false⟩ from by rfl] at q2
  have hpl : w.heap.size < w1.heap.size := by
    obtain ⟨_, _, h⟩ := hD.row
    exact h.lt
  clear q1 hD
  go_wp2_with fail
  refine q2.mono ?_
  rintro e w2 ⟨j, m, q, rfl, hj, hjm, hmq, hJ, hD, ho, hQ, m2⟩
  have hb2 := Below.mod hb1 m2 hb1.size (by simp)
  have hs1 := hb1.size
  have hql := hQ.lt
  have hM : TrM w2 w2.heap.size m [] := TrM.nil ho
  have q3 := some_any 1 5 w2 (by omega) (by omega) (hk.keep hb2)
  obtain ⟨t, ht⟩ : ∃ t, t = someT 1 5 := ⟨_, rfl⟩
  have t1 : t.head.height = 3 := by rw [ht]; rfl
  have t2 : t.at_ = 5 := by rw [ht]; rfl
  have t3 : t.head.skips = [] := by rw [ht]; rfl
  have t4 : t.set.length = 1 := by rw [ht]; rfl
  have t5 : fineT t = true := by rw [ht]; exact some_fine 1 5 (by omega) (by omega) (by omega) (by omega)
  have t6 : (writT t).length ≤ 430 := by rw [ht]; exact some_len 1 5
  rw [← ht] at q3
  clear ht q2 ho hb1
  have hmay : mayR (batchT [t]) = true := may_small _ 431 (by intro x hx; simp [batchT] at hx; subst hx; simp; omega) (by simp [batchT]) (by omega)
  have hrl := rec_len (batchT [t]) 431 (by intro x hx; simp [batchT] at hx; subst hx; simp; omega)
  have hwr := writeD_ok ⟨[], 0, 1000, -1, false⟩ (batchT [t]) rfl (by simp) (by simp [batchT] at hrl ⊢; omega)
  have hadd : addD ⟨[], 0, 1000, -1, false⟩ [] [t] = ((writeD ⟨[], 0, 1000, -1, false⟩ (batchT [t])).1, [(3, t)], 0, tornD (writeD ⟨[], 0, 1000, -1, false⟩ (batchT [t])).2) := addD_yes (by simp [t5]) (by rw [addsT_step (clashT_new (by simp [hts])), putK_new (by simp [hts]), t1]; rfl) (by simp) (by rw [hwr])
  have HT1 := Lib.hid t1
  have HT2 := Lib.hid t2
  have HT3 := Lib.hid t3
  have HT4 := Lib.hid t4
  have HADD := Lib.hid hadd
  have HMAY := Lib.hid hmay
  have HMM := Lib.hid hM
  have HQQ := Lib.hid hQ
  have HDD := Lib.hid hD
  have HJJ := Lib.hid hJ
  have HKT := Lib.hid hk
  clear hwr hrl t5 t6 t1 t2 t3 t4 hadd hmay hM hQ hD hJ hk m2
  go_wp2_with fail
  refine q3.mono ?_
  rintro e w3 ⟨v, rfl, ⟨sk, ms, rfl, r1, r2⟩, hb⟩
  obtain ⟨ka, kc, rfl⟩ := r1.form
  obtain ⟨ma, mc, rfl⟩ := r2.form
  have hb3 := hb2.trans (hb.mono hb2.size)
  have hs2 := hb.size
  have hbt := Below.allocS hb (.cells #[.int .i64 (t.head.height), .int .i64 (t.head.epoch), .int .i64 (t.head.view), .bool t.head.last, .string ⟨List.toArray (t.head.parent)⟩, .string ⟨List.toArray (t.head.state)⟩, .string ⟨List.toArray (t.head.receipts)⟩, .string ⟨List.toArray (t.head.txs)⟩, .string ⟨List.toArray (t.head.members)⟩, .string ⟨List.toArray (t.head.next)⟩, .slice ka t.head.skips.length kc, .slice ma t.set.length mc, .int .i64 (t.at_)] 27)
  have hb4 := hb2.trans (hbt.mono hb2.size)
  have hTL := TL.one r1 r2
  have q4 := tadd_any [q, m, j, w.heap.size] w2.heap.size w.heap.size j q m 10 ⟨[], 0, 1000, -1, false⟩ [] _ [t] (by simp) (by simp) HMAY.out (by simp) (by simp) (by simp) (by intro x hx; rw [List.mem_singleton] at hx; subst hx; rw [HT3.out, HT4.out, HT1.out]; simp) _ (HKT.out.keep hb4) (HDD.out.keep hbt) (HJJ.out.keep hbt) (by omega) (by simp) (by simp) (by intro x hx; simp at hx; simp; omega) (by omega) (by omega) hql (by omega) (by omega) (by simp; omega) (HQQ.out.keep hbt) (HMM.out.keep hbt) hTL
  rw [HADD.out] at q4
  clear q3 r1 r2 hTL hb hb3
  go_wp2_with fail
  refine q4.mono ?_
  rintro e w5 ⟨m', rfl, hQ5, hM5, _, _, m5⟩
  have hb5 := Below.mod hb4 m5 hb4.size (by simp; omega)
  have hs5 := hb5.size
  have q5 := tat_any w2.heap.size q m' 10 (.pointer (some ⟨j, 0, none⟩)) [(3, t)] 3 14 t (by omega) (by omega) (by omega) (by simp) (by rw [HT3.out]; simp) (by rw [HT4.out]; omega) w5 hM5 hQ5
  rw [show staleT 10 14 t = false from by unfold staleT; rw [HT2.out]; rfl] at q5
  simp only [Bool.false_eq_true, ↓reduceIte] at q5
  clear q4 m5 hb4 hbt hb2
  go_wp2_with fail
  refine q5.mono ?_
  rintro e w6 ⟨v6, rfl, ⟨sk, ms, rfl, r1, r2⟩, hb⟩
  obtain ⟨xa, xc, rfl⟩ := r1.form
  obtain ⟨ya, yc, rfl⟩ := r2.form
  have hM6 := hM5.keep hb
  have hQ6 := hQ5.keep hb
  have hb6 := hb5.trans (hb.mono hb5.size)
  have hs6 := hb6.size
  clear q5 hM5 hQ5 hb hb5
  go_wp2_with (first | (refine wpList_rowStore row_trust rfl rfl (.tmp 5) (.tmp 40) rfl rfl rfl (vs := [.int .i64 (t.head.height), .int .i64 (t.head.epoch), .int .i64 (t.head.view), .bool t.head.last, .string ⟨List.toArray (t.head.parent)⟩, .string ⟨List.toArray (t.head.state)⟩, .string ⟨List.toArray (t.head.receipts)⟩, .string ⟨List.toArray (t.head.txs)⟩, .string ⟨List.toArray (t.head.members)⟩, .string ⟨List.toArray (t.head.next)⟩, .slice xa t.head.skips.length xc, .slice ya t.set.length yc, .int .i64 (t.at_)]) rfl (by simp [Value.oneCell']) (us := [.int .i64 (0), .int .i64 (0), .int .i64 (0), .bool false, .string ⟨List.toArray ([])⟩, .string ⟨List.toArray ([])⟩, .string ⟨List.toArray ([])⟩, .string ⟨List.toArray ([])⟩, .string ⟨List.toArray ([])⟩, .string ⟨List.toArray ([])⟩, .slice none 0 0, .slice none 0 0, .int .i64 (0)]) rfl (Blk.new' (by simp)) ?_; intro w7 N7 m7; have hbn := Below.mod (Below.allocS (Below.refl w6.heap.size w6) (.cells #[.int .i64 (0), .int .i64 (0), .int .i64 (0), .bool false, .string ⟨List.toArray ([])⟩, .string ⟨List.toArray ([])⟩, .string ⟨List.toArray ([])⟩, .string ⟨List.toArray ([])⟩, .string ⟨List.toArray ([])⟩, .string ⟨List.toArray ([])⟩, .slice none 0 0, .slice none 0 0, .int .i64 (0)] 27)) m7 (by simp) (by simp); have q6 := tat_any w2.heap.size q m' 10 (.pointer (some ⟨j, 0, none⟩)) [(3, t)] 3 15 t (by omega) (by omega) (by omega) (by simp) (by rw [HT3.out]; simp) (by rw [HT4.out]; omega) w7 (hM6.keep hbn) (hQ6.keep hbn); rw [show staleT 10 15 t = true from by unfold staleT; rw [HT2.out]; rfl] at q6; simp only [↓reduceIte] at q6))
  refine q6.mono ?_
  rintro e w8 ⟨v8, rfl, rfl, hb⟩
  have hb7 := hb6.trans (hbn.mono hb6.size)
  have hb8 := hb7.trans (hb.mono hb7.size)
  clear q6 hM6 hQ6 hb hb6 hb7 hbn r1 r2 N7 m7
  obtain ⟨u, hu⟩ : ∃ u, u = someT 2 0 := ⟨_, rfl⟩
  have HU : Hid (codeT (fineT u) = 0) := Lib.hid (by rw [hu, some_fine 2 0 (by omega) (by omega) (by omega) (by omega)]; rfl)
  have HZ : Hid (codeT (fineT ⟨⟨0, 0, 0, false, [], [], [], [], [], [], []⟩, [], 0⟩) = 3) := Lib.hid rfl
  go_wp2_with (first | (refine wpList_rowStore row_trust rfl rfl (.tmp 7) (.tmp 45) rfl rfl rfl (vs := [.int .i64 (0), .int .i64 (0), .int .i64 (0), .bool false, .string ⟨List.toArray ([])⟩, .string ⟨List.toArray ([])⟩, .string ⟨List.toArray ([])⟩, .string ⟨List.toArray ([])⟩, .string ⟨List.toArray ([])⟩, .string ⟨List.toArray ([])⟩, .slice none 0 0, .slice none 0 0, .int .i64 (0)]) rfl (by simp [Value.oneCell']) (us := [.int .i64 (0), .int .i64 (0), .int .i64 (0), .bool false, .string ⟨List.toArray ([])⟩, .string ⟨List.toArray ([])⟩, .string ⟨List.toArray ([])⟩, .string ⟨List.toArray ([])⟩, .string ⟨List.toArray ([])⟩, .string ⟨List.toArray ([])⟩, .slice none 0 0, .slice none 0 0, .int .i64 (0)]) rfl (Blk.new' (by simp)) ?_; intro w9 N9 m9; have hbn := Below.mod (Below.allocS (Below.refl w8.heap.size w8) (.cells #[.int .i64 (0), .int .i64 (0), .int .i64 (0), .bool false, .string ⟨List.toArray ([])⟩, .string ⟨List.toArray ([])⟩, .string ⟨List.toArray ([])⟩, .string ⟨List.toArray ([])⟩, .string ⟨List.toArray ([])⟩, .string ⟨List.toArray ([])⟩, .slice none 0 0, .slice none 0 0, .int .i64 (0)] 27)) m9 (by simp) (by simp); have hb9 := hb8.trans (hbn.mono hb8.size); have q7 := some_any 2 0 w9 (by omega) (by omega) (HKT.out.keep hb9); rw [← hu] at q7))
  refine q7.mono ?_
  rintro e w10 ⟨v, rfl, ⟨sk, ms, rfl, r1, r2⟩, hb⟩
  have hb10 := hb9.trans (hb.mono hb9.size)
  have q8 := tr_check u.head.height u.head.epoch u.head.view u.head.last u.head.parent u.head.state u.head.receipts u.head.txs u.head.members u.head.next u.head.skips _ u.set _ u.at_ w10 r1.ss r2.ms (HKT.out.keep hb10)
  rw [show codeT (fineT ⟨⟨u.head.height, u.head.epoch, u.head.view, u.head.last, u.head.parent, u.head.state, u.head.receipts, u.head.txs, u.head.members, u.head.next, u.head.skips⟩, u.set, u.at_⟩) = 0 from HU.out] at q8
  clear q7 hu r1 r2 hb hb9 hbn N9 m9 hb8
  go_wp2_with fail
  refine q8.mono ?_
  rintro e w11 ⟨rfl, hb⟩
  have hb11 := hb10.trans (hb.mono hb10.size)
  have q9 := tr_check 0 0 0 false [] [] [] [] [] [] [] _ [] _ 0 w11 (SS.nil w11) (MRow.nil w11 0).ms (HKT.out.keep hb11)
  rw [HZ.out] at q9
  clear q8 hb10 hb
  go_wp2_with fail
  refine q9.mono ?_
  rintro e w12 ⟨rfl, hb⟩
  go_wp2_with fail
  go_ret
  exact ⟨rfl, hb11.trans (hb.mono hb11.size)⟩
end Go.Proofs.YthgjdaomcpinaaaGreatDoor
