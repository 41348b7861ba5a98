/- WSplit, Laid. -/
import Derived.Lib.LazyBuf
import Derived.LaidMore
import Derived.Stop.Joined
import Derived.Test.YthkpmlfaddlieaaGreatDoorMs27
set_option linter.unnecessarySimpa false
set_option linter.unusedSimpArgs false
set_option linter.unusedVariables false
set_option maxRecDepth 100000
set_option maxHeartbeats 32000000
namespace Go.Proofs.YthkpmlfaddlieaaGreatDoor
open Go.RowKit Go.Shelf Pl
section
variable {P : Program} {ops : Array Oper} {op : Oper} {rest : List Oper} {a : Act} {w : World} {Q : Exit → Act → World → Prop}
theorem wpList_built (hgd : op.guard = none) (T : TypeId) (fs : Array (Nat × Operand)) (ho : op.op = .build T fs) (v : Value) (hv : (execOp a.eval op).run P w = .ok (.value v) w)
  (h : wpList P ops Q rest (a.put op.dst v) w) : wpList P ops Q (op :: rest) a w := by
 refine wpList_plain hgd fun K hK => ?_
 unfold Oper.wp
 rw [hv]
 exact hK _ _ h
end
theorem AnsR.oneS {w : World} {h : Hd} {sk : Value} {nx : List (Bs × Int)} {l : List Bs} {hv nv sg : Value} (hA : AnsR w h sk nx l hv nv sg) (ht : Int) (d : Bs) : ∀ u ∈ acs ht hv nv d sg, u.oneCell' = true := by
 obtain ⟨⟨k, rfl, _⟩, h2, h3, _⟩ := hA
 obtain ⟨a2, c2, rfl⟩ := h2.form
 obtain ⟨a3, c3, rfl⟩ := h3.form
 intro u hu
 simp only [acs, List.mem_cons, List.not_mem_nil, or_false] at hu
 rcases hu with rfl | rfl | rfl | rfl | rfl | rfl | rfl | rfl | rfl | rfl | rfl <;> rfl
theorem wsplit_any (A : List Acc) (S : List (Bs × Int)) (B : List Bs) (frm many at_ by_ up : Int) (va vs vb fa fb : Value) (all : Bool) (la lb : List Bool) (w : World)
  (hA : AcL w va A) (hS : MS w vs S) (hB : SS w vb B) (hfa : BoL w fa la) (hfb : BoL w fb lb) (hk : KT w) :
  Calls Tryz.prog 4 #[.agg (wdcs va vs many vb).toArray, .int .i64 frm, .agg (fkcs at_ by_ up fa fb all).toArray] w fun e w' => e = .returned (.bool true) ∧ Below w.heap.size w w' := by
 have hb2 : Below w.heap.size w ((w.alloc (.cells (wdcs va vs many vb).toArray 26)).alloc (.cells (fkcs at_ by_ up fa fb all).toArray 29)) := Below.allocS (Below.allocS (Below.refl _ _) _) _
 have N0 : Blk ((w.alloc (.cells (wdcs va vs many vb).toArray 26)).alloc (.cells (fkcs at_ by_ up fa fb all).toArray 29)) w.heap.size (wdcs va vs many vb).toArray := (Blk.new _ _ _).alloc _
 have N1 : Blk ((w.alloc (.cells (wdcs va vs many vb).toArray 26)).alloc (.cells (fkcs at_ by_ up fa fb all).toArray 29)) (w.heap.size + 1) (fkcs at_ by_ up fa fb all).toArray := Blk.new' (by simp)
 have q0 := worksw_any _ (hk.keep hb2)
 have HA := Lib.hid hA
 have HS := Lib.hid hS
 have HB := Lib.hid hB
 have HFA := Lib.hid hfa
 have HFB := Lib.hid hfb
 have HK := Lib.hid hk
 clear hA hS hB hfa hfb hk
 have q22 : ∀ (w : World) (a : Option Addr) (n c n' c' : Nat), (binOp .eql 31 (.slice a n c) (.slice none n' c')).run Tryz.prog w = .ok (.bool a.isNone) w := fun w a n c n' c' => Go.Lib.run_eql_slice_nil w _ _ a n c n' c' Tryz.underlying31
 go_enter Tryz.func4, Tryz.ntmps4
 go_wp2_with fail
 refine q0.mono ?_
 rintro e w3 ⟨rfl, hb⟩
 have N0 := N0.keep hb
 have N1 := N1.keep hb
 have hb3 := hb2.trans (hb.mono hb2.size)
 have q1 := made_any A S many va vs vb w3 (HA.out.keep hb3) (HS.out.keep hb3)
 clear q0 hb hb2
 go_wp2_with (first | (refine wpList_rowR row_wd rfl (.tmp 3) rfl rfl (vs := wdcs va vs many vb) rfl N0.range ?_) | fail)
 refine q1.mono ?_
 rintro e w4 ⟨hb, he⟩
 have N0 := N0.keep hb
 have N1 := N1.keep hb
 have hb4 := hb3.trans (hb.mono hb3.size)
 have q2 := wbig_any A S B many va vs vb w4 (HA.out.keep hb4) (HS.out.keep hb4) (HB.out.keep hb4)
 clear q1 hb hb3
 rcases he with rfl | ⟨v, E, rfl, hE, hLI, hE2, hEl6⟩
 ·go_wp2_with (first | (refine wpList_rowR row_wd rfl (.tmp 3) rfl rfl (vs := wdcs va vs many vb) rfl N0.range ?_) | fail)
  refine q2.mono ?_
  rintro e w5 ⟨⟨b, rfl⟩, hb⟩
  have hb5 := hb4.trans (hb.mono hb4.size)
  cases b
  ·go_wp2_with fail
   all_goals (go_ret; exact ⟨rfl, hb5⟩)
  ·go_wp2_with fail
   all_goals (go_ret; exact ⟨rfl, hb5⟩)
 ·obtain ⟨p0, hp0⟩ : ∃ p, E[0]? = some p := ⟨E[0], List.getElem?_eq_getElem (by omega)⟩
  obtain ⟨va0, vc, rfl⟩ := hE.form
  obtain ⟨g, off, _, _, _, _, e0, _⟩ := hE.at 0 p0 hp0
  subst e0
  go_wp2_with (first | (refine wpList_rowR row_wd rfl (.tmp 3) rfl rfl (vs := wdcs va vs many vb) rfl N0.range ?_) | fail)
  refine q2.mono ?_
  rintro e w5 ⟨⟨b, rfl⟩, hb⟩
  have hb5 := hb4.trans (hb.mono hb4.size)
  cases b
  rotate_left
  ·go_wp2_with fail
   all_goals (go_ret; exact ⟨rfl, hb5⟩)
  have N0 := N0.keep hb
  have N1 := N1.keep hb
  have hE5 := hE.keep hb
  have hl0 := N0.lt
  have hl1 := N1.lt
  have HLI0 := hLI
  have q6 := fun W => below_any frm E.length (by omega) (by omega) W
  have hyl := modN_lt frm E.length (by omega)
  generalize modN frm E.length = y at *
  obtain ⟨yy, hyy⟩ : ∃ x, E[y]? = some x := ⟨E[y], List.getElem?_eq_getElem hyl⟩
  have hyI := HLI0.all y hyl
  rw [List.getD_eq_getElem?_getD, hyy] at hyI
  simp only [Option.getD_some] at hyI
  obtain ⟨g3, o3, sk3, it3, st3, nx3, e3, hg3, hr3, hat3⟩ := hE5.at y yy hyy
  injection e3 with e3
  injection e3 with e3 e4 _
  subst e3 e4
  obtain ⟨y1, d1, f1⟩ := hat3.1.form
  obtain ⟨y2, d2, f2⟩ := hat3.2.1.form
  obtain ⟨y3, d3, f3⟩ := hat3.2.2.1.form
  obtain ⟨y4, d4, f4⟩ := hat3.2.2.2.form
  simp only at f1 f2 f3 f4
  subst f1 f2 f3 f4
  have HTK := Lib.hid (show SS w5 (.slice y1 yy.head.skips.length d1) yy.head.skips from hat3.1)
  have HTM := Lib.hid (show MS w5 (.slice y4 yy.next.length d4) yy.next from hat3.2.2.2)
  have i1 : (y : Int) < (E.length : Int) := by omega
  clear hat3 q2 hb hE hp0
  go_upto_region 6 with fail
  go_wp2_with fail
  refine (q6 _).mono ?_
  rintro e w5' ⟨rfl, rfl⟩
  go_upto_region 7 with (first
   | (refine wpList_rowR row_ent rfl (.tmp 38) rfl rfl (vs := ecs yy (.slice y1 yy.head.skips.length d1) (.slice y2 yy.items.length d2) (.slice y3 yy.set.length d3) (.slice y4 yy.next.length d4)) rfl hr3 ?_)
   | (refine wpList_rowStoreT row_ent rfl rfl (.tmp 8) (.tmp 39) rfl rfl (vs := ecs yy (.slice y1 yy.head.skips.length d1) (.slice y2 yy.items.length d2) (.slice y3 yy.set.length d3) (.slice y4 yy.next.length d4)) rfl rfl (ecs_one _ _ _ _ _ _ _ _ _ _ _ _ _) (us := ecs entZ (.slice none 0 0) (.slice none 0 0) (.slice none 0 0) (.slice none 0 0)) rfl (Blk.new' rfl) (Typ.new' rfl) ?_; intro w6 N8 T8 m8)
   | fail)
  have hb56 : Below w5'.heap.size w5' w6 := Below.mod (Below.allocS (Below.refl _ _) _) m8 (by simp) (by simp)
  have r8 := ent_head N8
  have c16 := N8.cell 16
  simp only [ecs, List.getElem?_toArray, List.getElem?_cons_zero, List.getElem?_cons_succ] at c16
  go_upto_region 8 with (first
   | (refine wpList_built rfl 67 #[(0, .tmp 41), (1, .tmp 43)] rfl (.agg (trv yy.head (.slice y1 yy.head.skips.length d1) (.slice y4 yy.next.length d4) 0).toArray) (by kernel_rfl) ?_)
   | (refine wpList_rowR row_head rfl (.tmp 40) rfl rfl (vs := hcs yy.head (.slice y1 yy.head.skips.length d1)) rfl r8 ?_)
   | (refine wpList_rowStoreT row_tr rfl rfl (.tmp 9) (.tmp 44) rfl rfl (vs := trv yy.head (.slice y1 yy.head.skips.length d1) (.slice y4 yy.next.length d4) 0) rfl rfl (trv_one _ _ _ _ _ _ _ _) (us := trv hdZ (.slice none 0 0) (.slice none 0 0) 0) rfl (Blk.new' rfl) (Typ.new' rfl) ?_; intro w7 N9 T9 m9)
   | fail)
  have hb67 : Below w6.heap.size w6 w7 := Below.mod (Below.allocS (Below.refl _ _) _) m9 (by simp) (by simp)
  have hx7 := hb56.trans (hb67.mono hb56.size)
  have hb7 := hb5.trans (hx7.mono hb5.size)
  have N0 := N0.keep hx7
  have N1 := N1.keep hx7
  have hz6 := hb56.size
  have HTK := Lib.hid (HTK.out.keep hx7)
  have HTM := Lib.hid (HTM.out.keep hx7)
  have qf := fork_any A S B many at_ by_ up va vs vb (.slice (some ⟨g, off, none⟩) E.length vc) fa fb all la lb E w7 (HA.out.keep hb7) (HS.out.keep hb7) (HB.out.keep hb7) hLI (hE5.keep hx7) hEl6 (HFA.out.keep hb7) (HFB.out.keep hb7)
  have HLI := Lib.hid hLI
  have l9 := N9.lt
  clear hE5 hb56 hb67 hx7 m8 m9 N8 T8 r8 c16 hr3 hg3 hb5 q6
  go_wp2_with (first
   | (refine wpList_rowR row_wd rfl (.tmp 3) rfl rfl (vs := wdcs va vs many vb) rfl N0.range ?_)
   | (refine wpList_rowR row_fk rfl (.tmp 5) rfl rfl (vs := fkcs at_ by_ up fa fb all) rfl N1.range ?_)
   | fail)
  refine qf.mono ?_
  rintro e w8 ⟨i, j, p, q, qh, sk1, sk2, hv1, nv1, sg1, hv2, nv2, sg2, base, pt, L, hi, hp, hq, hqe, rfl, hR1, hR2, hTab, hbs, hOk, hb8⟩
  have hbw8 := hb7.trans (hb8.mono hb7.size)
  have N9 := N9.keep hb8
  have HTK := Lib.hid (HTK.out.keep hb8)
  have HTM := Lib.hid (HTM.out.keep hb8)
  have hz8 := hb8.size
  have hpS : p.next = S := by
   have := (HLI.out.all i (List.getElem?_eq_some_iff.1 hp).1).ne
   rw [List.getD_eq_getElem?_getD, hp] at this
   exact this
  have hqS : q.next = S := by
   have := (HLI.out.all j (List.getElem?_eq_some_iff.1 hq).1).ne
   rw [List.getD_eq_getElem?_getD, hq] at this
   exact this
  have hyS : yy.next = S := hyI.ne
  have hSl : S.length ≤ 1000000 := by
   have h1 := HLI.out.chk
   simp only [chkM, Bool.and_eq_true, decide_eq_true_eq] at h1
   omega
  have HPS := Lib.hid hpS
  have HQS := Lib.hid hqS
  have HYS := Lib.hid hyS
  have HSL := Lib.hid hSl
  generalize hnA : namedL p.set la p.set.length = nA at *
  generalize hnB : namedL q.set lb q.set.length = nB at *
  have hx8 : Below w8.heap.size w8 ((w8.alloc (.cells (acs 0 (.slice none 0 0) (.slice none 0 0) [] (.slice none 0 0)).toArray 42)).alloc (.cells (acs 0 (.slice none 0 0) (.slice none 0 0) [] (.slice none 0 0)).toArray 42)) := Below.allocS (Below.allocS (Below.refl _ _) _) _
  have P6 : Blk ((w8.alloc (.cells (acs 0 (.slice none 0 0) (.slice none 0 0) [] (.slice none 0 0)).toArray 42)).alloc (.cells (acs 0 (.slice none 0 0) (.slice none 0 0) [] (.slice none 0 0)).toArray 42)) w8.heap.size (acs 0 (.slice none 0 0) (.slice none 0 0) [] (.slice none 0 0)).toArray := (Blk.new _ _ _).alloc _
  have P7 : Blk ((w8.alloc (.cells (acs 0 (.slice none 0 0) (.slice none 0 0) [] (.slice none 0 0)).toArray 42)).alloc (.cells (acs 0 (.slice none 0 0) (.slice none 0 0) [] (.slice none 0 0)).toArray 42)) (w8.heap.size + 1) (acs 0 (.slice none 0 0) (.slice none 0 0) [] (.slice none 0 0)).toArray := Blk.new' (by simp)
  have Q6 : Typ ((w8.alloc (.cells (acs 0 (.slice none 0 0) (.slice none 0 0) [] (.slice none 0 0)).toArray 42)).alloc (.cells (acs 0 (.slice none 0 0) (.slice none 0 0) [] (.slice none 0 0)).toArray 42)) w8.heap.size 42 := (Typ.new _ _ _).keep (Below.allocS (Below.refl _ _) _)
  have Q7 : Typ ((w8.alloc (.cells (acs 0 (.slice none 0 0) (.slice none 0 0) [] (.slice none 0 0)).toArray 42)).alloc (.cells (acs 0 (.slice none 0 0) (.slice none 0 0) [] (.slice none 0 0)).toArray 42)) (w8.heap.size + 1) 42 := Typ.new' (by simp)
  have HR1 := Lib.hid hR1
  have HR2 := Lib.hid hR2
  have HTB := Lib.hid hTab
  clear qf hR1 hR2 hTab hOk hqe hi hp hq hpS hqS hyS hSl hnA hnB hb8 hb7 hyy hyI
  go_upto_region 9 with (first
   | (refine wpList_rowStoreT row_ans rfl rfl (.tmp 10) (.tmp 50) rfl rfl (vs := acs (i : Int) hv1 nv1 p.sum sg1) rfl rfl (HR1.out.oneS _ _) (us := acs 0 (.slice none 0 0) (.slice none 0 0) [] (.slice none 0 0)) rfl P6 Q6 ?_; intro w9 N10 T10 m10)
   | (refine wpList_rowStoreT row_ans rfl rfl (.tmp 11) (.tmp 51) rfl rfl (vs := acs (j : Int) hv2 nv2 (dgH qh) sg2) rfl rfl (HR2.out.oneS _ _) (us := acs 0 (.slice none 0 0) (.slice none 0 0) [] (.slice none 0 0)) rfl (P7.mod m10 (by simp)) (Q7.mod m10 (by simp)) ?_; intro wA N11 T11 m11)
   | fail)
  have hxA : Below w8.heap.size w8 wA := Below.mod (Below.mod hx8 m10 (by simp; omega) (by simp)) m11 (by have h1 := m10.size; simp at h1; omega) (by simp)
  have N10 := N10.mod m11 (by simp)
  have N9 := N9.keep hxA
  have hbwA := hbw8.trans (hxA.mono hbw8.size)
  have HTK := Lib.hid (HTK.out.keep hxA)
  have HTM := Lib.hid (HTM.out.keep hxA)
  have HR1 := Lib.hid (HR1.out.keep hxA)
  have HR2 := Lib.hid (HR2.out.keep hxA)
  have HTB := Lib.hid (HTB.out.keep hxA)
  have HKA := Lib.hid (HK.out.keep hbwA)
  have r9 := N9.range
  have r10 := N10.range
  have qA := fun W (hW : Below wA.heap.size wA W) => acc_uni yy.head yy.next (.slice y1 yy.head.skips.length d1) (.slice y4 yy.next.length d4) (i : Int) p.head sk1 p.next p.sum nA hv1 nv1 sg1 base pt L W (HTK.out.keep hW) (HTM.out.keep hW) (HR1.out.keep hW) (by rw [HPS.out]; exact HSL.out) (HTB.out.keep hW) (HKA.out.keep hW)
  have qB := fun W (hW : Below wA.heap.size wA W) => acc_uni yy.head yy.next (.slice y1 yy.head.skips.length d1) (.slice y4 yy.next.length d4) (j : Int) qh sk2 q.next (dgH qh) nB hv2 nv2 sg2 base pt L W (HTK.out.keep hW) (HTM.out.keep hW) (HR2.out.keep hW) (by rw [HQS.out]; exact HSL.out) (HTB.out.keep hW) (HKA.out.keep hW)
  have qC := fun W (hW : Below wA.heap.size wA W) => compare_any yy.head yy.next (.slice y1 yy.head.skips.length d1) (.slice y4 yy.next.length d4) (i : Int) (j : Int) p.head qh sk1 sk2 p.next q.next p.sum (dgH qh) nA nB hv1 nv1 sg1 hv2 nv2 sg2 base pt L W (HTK.out.keep hW) (HTM.out.keep hW) (HR1.out.keep hW) (HR2.out.keep hW) (by rw [HPS.out]; exact HSL.out) (by rw [HQS.out]; exact HSL.out) (by rw [HYS.out]; exact HSL.out) (HTB.out.keep hW) (HKA.out.keep hW)
  have HSP := Lib.hid (fun h1 h2 h3 h4 => split_law (T := yy.head) (S := yy.next) (hta := (i : Int)) (htb := (j : Int)) (hA := p.head) (hB := qh) (nxa := p.next) (nxb := q.next) (da := p.sum) (db := dgH qh) (nsa := nA) (nsb := nB) (L := L) h1 h2 h3 h4)
  have HNA := Lib.hid (accC_ne yy.head yy.next (i : Int) p.head p.next p.sum nA L)
  have HNB := Lib.hid (accC_ne yy.head yy.next (j : Int) qh q.next (dgH qh) nB L)
  generalize accC yy.head yy.next (i : Int) p.head p.next p.sum nA L = cA at *
  generalize accC yy.head yy.next (j : Int) qh q.next (dgH qh) nB L = cB at *
  have hz9 : w8.heap.size + 2 ≤ wA.heap.size := by have h1 := m10.size; have h2 := m11.size; simp at h1; omega
  clear m10 m11 hx8 hxA P6 P7 Q6 Q7 hbw8 T10 T11
  go_wp2_with (first
   | (refine wpList_rowR row_tr rfl (.tmp 9) rfl rfl (vs := trv yy.head (.slice y1 yy.head.skips.length d1) (.slice y4 yy.next.length d4) 0) rfl r9 ?_)
   | (refine wpList_rowR row_ans rfl (.tmp 10) rfl rfl (vs := acs (i : Int) hv1 nv1 p.sum sg1) rfl r10 ?_)
   | fail)
  refine (qA _ (Below.refl _ _)).mono ?_
  rintro e wB ⟨a1, c1, m1, n1, k1, rfl, hSA, hbB⟩
  generalize hPA : pickH cA p.head = PA at *
  have HPA := Lib.hid hPA
  clear hPA qA
  go_upto_region 10 with (first
   | (refine wpList_rowStoreT row_tr rfl rfl (.tmp 13) (.tmp 58) rfl rfl (vs := trv PA (.slice a1 PA.skips.length c1) (.slice m1 n1 k1) 0) rfl rfl (trv_one _ _ _ _ _ _ _ _) (us := trv hdZ (.slice none 0 0) (.slice none 0 0) 0) rfl (Blk.new' rfl) (Typ.new' rfl) ?_; intro wC N13 T13 m13)
   | fail)
  have hbBC : Below wB.heap.size wB wC := Below.mod (Below.allocS (Below.refl _ _) _) m13 (by simp) (by simp)
  have hbC := hbB.trans (hbBC.mono hbB.size)
  have HSA := Lib.hid (hSA.keep hbBC)
  have r9 := (N9.keep hbC).range
  have r11 := (N11.keep hbC).range
  clear m13 hSA T13
  go_wp2_with (first
   | (refine wpList_rowR row_tr rfl (.tmp 9) rfl rfl (vs := trv yy.head (.slice y1 yy.head.skips.length d1) (.slice y4 yy.next.length d4) 0) rfl r9 ?_)
   | (refine wpList_rowR row_ans rfl (.tmp 11) rfl rfl (vs := acs (j : Int) hv2 nv2 (dgH qh) sg2) rfl r11 ?_)
   | fail)
  refine (qB _ hbC).mono ?_
  rintro e wD ⟨a2, c2, m2, n2, k2, rfl, hSB, hbD⟩
  generalize hPB : pickH cB qh = PB at *
  have HPB := Lib.hid hPB
  clear hPB qB
  go_upto_region 11 with (first
   | (refine wpList_rowStoreT row_tr rfl rfl (.tmp 15) (.tmp 65) rfl rfl (vs := trv PB (.slice a2 PB.skips.length c2) (.slice m2 n2 k2) 0) rfl rfl (trv_one _ _ _ _ _ _ _ _) (us := trv hdZ (.slice none 0 0) (.slice none 0 0) 0) rfl (Blk.new' rfl) (Typ.new' rfl) ?_; intro wE N15 T15 m15)
   | fail)
  have hbDE : Below wD.heap.size wD wE := Below.mod (Below.allocS (Below.refl _ _) _) m15 (by simp) (by simp)
  have hbCE := hbD.trans (hbDE.mono hbD.size)
  have hbE := hbC.trans (hbCE.mono hbC.size)
  have N13 := N13.keep hbCE
  have HSA := Lib.hid (HSA.out.keep hbCE)
  have HSB := Lib.hid (hSB.keep hbDE)
  have r9 := (N9.keep hbE).range
  have r10 := (N10.keep hbE).range
  have r11 := (N11.keep hbE).range
  clear m15 hSB T15 hbB hbBC hbC hbD hbDE hbCE
  go_wp2_with (first
   | (refine wpList_rowR row_tr rfl (.tmp 9) rfl rfl (vs := trv yy.head (.slice y1 yy.head.skips.length d1) (.slice y4 yy.next.length d4) 0) rfl r9 ?_)
   | (refine wpList_rowR row_ans rfl (.tmp 10) rfl rfl (vs := acs (i : Int) hv1 nv1 p.sum sg1) rfl r10 ?_)
   | (refine wpList_rowR row_ans rfl (.tmp 11) rfl rfl (vs := acs (j : Int) hv2 nv2 (dgH qh) sg2) rfl r11 ?_)
   | fail)
  refine (qC _ hbE).mono ?_
  rintro e wF he
  obtain ⟨u, a3, c3, m3, n3, k3, ev, rfl, hSU, hCU, hbF⟩ := cmp_uni he
  generalize hcd : cmpC cA cB p.head qh = cd at *
  have HCD := Lib.hid hcd
  clear hcd he qC
  have P17 : Blk ((wF.alloc (.cells (trv hdZ (.slice none 0 0) (.slice none 0 0) 0).toArray 67)).alloc (.cells evZ.toArray 54)) wF.heap.size (trv hdZ (.slice none 0 0) (.slice none 0 0) 0).toArray := (Blk.new _ _ _).alloc _
  have P18 : Blk ((wF.alloc (.cells (trv hdZ (.slice none 0 0) (.slice none 0 0) 0).toArray 67)).alloc (.cells evZ.toArray 54)) (wF.heap.size + 1) evZ.toArray := Blk.new' (by simp)
  have Q17 : Typ ((wF.alloc (.cells (trv hdZ (.slice none 0 0) (.slice none 0 0) 0).toArray 67)).alloc (.cells evZ.toArray 54)) wF.heap.size 67 := (Typ.new _ _ _).keep (Below.allocS (Below.refl _ _) _)
  have Q18 : Typ ((wF.alloc (.cells (trv hdZ (.slice none 0 0) (.slice none 0 0) 0).toArray 67)).alloc (.cells evZ.toArray 54)) (wF.heap.size + 1) 54 := Typ.new' (by simp)
  have hxF : Below wF.heap.size wF ((wF.alloc (.cells (trv hdZ (.slice none 0 0) (.slice none 0 0) 0).toArray 67)).alloc (.cells evZ.toArray 54)) := Below.allocS (Below.allocS (Below.refl _ _) _) _
  go_upto_region 12 with (first
   | (refine wpList_rowStoreT row_tr rfl rfl (.tmp 17) (.tmp 73) rfl rfl (vs := trv u (.slice a3 u.skips.length c3) (.slice m3 n3 k3) 0) rfl rfl (trv_one _ _ _ _ _ _ _ _) (us := trv hdZ (.slice none 0 0) (.slice none 0 0) 0) rfl P17 Q17 ?_; intro wG N17 T17 m17)
   | (refine wpList_rowStoreT row_ev rfl rfl (.tmp 18) (.tmp 74) rfl rfl (vs := ev) rfl hCU.len hCU.one (us := evZ) rfl (P18.mod m17 (by simp)) (Q18.mod m17 (by simp)) ?_; intro wH N18 T18 m18)
   | fail)
  have hxH : Below wF.heap.size wF wH := Below.mod (Below.mod hxF m17 (by simp; omega) (by simp)) m18 (by have h1 := m17.size; simp at h1; omega) (by simp)
  have N17 := N17.mod m18 (by simp)
  have HXH := Lib.hid hxH
  have hbH := hbF.trans (hxH.mono hbF.size)
  have hbAH := hbE.trans (hbH.mono hbE.size)
  have hbwH := hbwA.trans (hbAH.mono hbwA.size)
  have N13 := N13.keep hbH
  have N15 := N15.keep hbH
  have HSA := Lib.hid (HSA.out.keep hbH)
  have HSB := Lib.hid (HSB.out.keep hbH)
  have HSU := Lib.hid (hSU.keep hxH)
  have HCU := Lib.hid hCU
  have HTBH := Lib.hid (HTB.out.keep hbAH)
  have HKH := Lib.hid (HK.out.keep hbwH)
  have rA := trv_head N13
  have rB := trv_head N15
  have rU := trv_head N17
  have xA := (trv_cells N13).1
  have xB := (trv_cells N15).1
  obtain ⟨xU, xU11⟩ := trv_cells N17
  have lA := N13.lt
  have lB := N15.lt
  have lU := N17.lt
  have lV := N18.lt
  have rV := N18.range
  have qdA := fun W (hW : Below wH.heap.size wH W) => hd_digest PA.height PA.epoch PA.view PA.last PA.parent PA.state PA.receipts PA.txs PA.members PA.next PA.skips a1 c1 W (HSA.out.keep hW) (HKH.out.keep hW)
  have qdB := fun W (hW : Below wH.heap.size wH W) => hd_digest PB.height PB.epoch PB.view PB.last PB.parent PB.state PB.receipts PB.txs PB.members PB.next PB.skips a2 c2 W (HSB.out.keep hW) (HKH.out.keep hW)
  rw [show dgH (⟨PA.height, PA.epoch, PA.view, PA.last, PA.parent, PA.state, PA.receipts, PA.txs, PA.members, PA.next, PA.skips⟩ : Hd) = dgH PA from rfl] at qdA
  rw [show dgH (⟨PB.height, PB.epoch, PB.view, PB.last, PB.parent, PB.state, PB.receipts, PB.txs, PB.members, PB.next, PB.skips⟩ : Hd) = dgH PB from rfl] at qdB
  clear m17 m18 hxF hxH P17 P18 Q17 Q18 hbE hbF hCU hSU r9 r10 r11 T17 T18 N9 N10 N11
  go_upto_region 12 with fail
  refine wpH_start (by kernel_rfl) (fun hS => ?_)
  (refine hP 0 ?_ ⟨some 76, .fieldAddr 67 (.tmp 13) 0, 0, "", #[], none⟩ hS ?_ ?_; rotate_left; focus (intro w; go_simp; try with_reducible rfl))
  try simp only [pna, pnb, pnc, pnd, pne]
  refine wpH_load 1 (.agg (hcs PA (.slice a1 PA.skips.length c1)).toArray) (oi := ⟨some 77,.load 48 (.tmp 76),48,"theorems.go:63",#[⟨0,.data⟩],none⟩) rfl (by kernel_rfl) (by kernel_rfl) (by kernel_rfl) (by rfl) hS (fun _ _ _ h => h) (fun w' hb2 => exec_rowR row_head (.tmp 76) rfl rfl rfl (rg_keep rA lA hb2)) ?_
  try simp only [pna, pnb, pnc, pnd, pne]
  (refine hP 3 ?_ ⟨some 79, .fieldAddr 67 (.tmp 15) 0, 0, "", #[], none⟩ hS ?_ ?_; rotate_left; focus (intro w; go_simp; try with_reducible rfl))
  try simp only [pna, pnb, pnc, pnd, pne]
  refine wpH_load 4 (.agg (hcs PB (.slice a2 PB.skips.length c2)).toArray) (oi := ⟨some 80,.load 48 (.tmp 79),48,"theorems.go:63",#[⟨3,.data⟩],none⟩) rfl (by kernel_rfl) (by kernel_rfl) (by kernel_rfl) (by rfl) hS (fun _ _ _ h => h) (fun w' hb2 => exec_rowR row_head (.tmp 79) rfl rfl rfl (rg_keep rB lB hb2)) ?_
  try simp only [pna, pnb, pnc, pnd, pne]
  refine wpH_call 2 (oi := ⟨some 78,.call { callee := .value (.func 21), args := #[.tmp 77], argTypes := #[48] },9,"theorems.go:63",#[⟨1,.data⟩],none⟩) rfl (by kernel_rfl) (by rfl) (qdA _ hS) ?_ ?_
  ·(go_simp; try rfl)
  rintro e w' ⟨rfl, hbx⟩
  refine ⟨_, rfl, hS.trans (hbx.mono hS.size), ?_⟩
  replace hS := hS.trans (hbx.mono hS.size)
  try simp only [pna, pnb, pnc, pnd, pne]
  refine wpH_call 5 (oi := ⟨some 81,.call { callee := .value (.func 21), args := #[.tmp 80], argTypes := #[48] },9,"theorems.go:63",#[⟨4,.data⟩, ⟨2,.chain⟩],none⟩) rfl (by kernel_rfl) (by rfl) (qdB _ hS) ?_ ?_
  ·(go_simp; try rfl)
  rintro e w' ⟨rfl, hbx⟩
  refine ⟨_, rfl, hS.trans (hbx.mono hS.size), ?_⟩
  replace hS := hS.trans (hbx.mono hS.size)
  try simp only [pna, pnb, pnc, pnd, pne]
  (refine hP 6 ?_ ⟨some 82, .binOp .eql 9 (.tmp 78) (.tmp 81) 9, 4, "", #[], none⟩ hS ?_ ?_; rotate_left; focus (intro w; go_simp; try with_reducible rfl))
  try simp only [pna, pnb, pnc, pnd, pne]
  (refine hP 7 ?_ ⟨some 20, .assign (.tmp 82), 4, "", #[], none⟩ hS ?_ ?_; rotate_left; focus (intro w; go_simp; try with_reducible rfl))
  try simp only [pna, pnb, pnc, pnd, pne]
  refine wpAnyH_done (by kernel_rfl) ?_ _
  obtain ⟨wI, hwI⟩ := Below.name hS
  subst hwI
  have hbI := hS
  have hbwI := hbwH.trans (hbI.mono hbwH.size)
  generalize hbq : (dgH PA == dgH PB) = bq at *
  have HBQ := Lib.hid hbq
  have xA := (hbI.cell (p := ⟨wB.heap.size, 0, none⟩) lA).trans xA
  have xB := (hbI.cell (p := ⟨wD.heap.size, 0, none⟩) lB).trans xB
  have xU := (hbI.cell (p := ⟨wF.heap.size, 0, none⟩) lU).trans xU
  have xU11 := (hbI.cell (p := ⟨wF.heap.size, 11, none⟩) lU).trans xU11
  have rA := rg_keep rA lA hbI
  have rU := rg_keep rU lU hbI
  have rV := rg_keep rV lV hbI
  have HSA := Lib.hid (HSA.out.keep hbI)
  have HSU := Lib.hid (HSU.out.keep hbI)
  have HTBI := Lib.hid (HTBH.out.keep hbI)
  have HKI := Lib.hid (HKH.out.keep hbI)
  have HL18 : Hid (wF.heap.size + 1 < wI.heap.size) := Lib.hid (Nat.lt_of_lt_of_le lV hbI.size)
  have HFI := Lib.hid (HXH.out.trans (hbI.mono HXH.out.size))
  clear hbq hS qdA qdB rB N13 N15 N17 N18 hbI lA lB lU lV
  by_cases hA0 : cA = 0
  rotate_left
  ·have hcd : cd = cA := HCD.out.symm.trans (by unfold cmpC; rw [if_pos hA0])
   have h0 : cd ≠ 0 := by rw [hcd]; exact hA0
   have h3 : cd ≠ 370 := by rw [hcd]; exact HNA.out
   obtain ⟨hu, hn⟩ := HCU.out.bad h0
   have hev := HCU.out.non h0 h3
   subst hu hn hev
   have xU0 : wI.cell? ⟨wF.heap.size, 0, none⟩ = some (.int .i64 0) := xU
   have e1 : (cd == 0) = false := by simpa using h0
   have e2 : (cd != 0) = true := by simpa using h0
   have e3 : (cd != 370) = true := by simpa using h3
   have e4 : (cd == 370) = false := by simpa using h3
   have f1 : (cA == 0) = false := by simpa using hA0
   have f2 : (cA != 0) = true := by simpa using hA0
   clear h0 h3 hcd xU hA0
   go_upto_region 18 with fail
   go_wp2_with (first | (refine wpList_rowRG row_ev (by rfl) (.tmp 18) rfl rfl (vs := evZ) rfl rV ?_) | fail)
   refine (same_zero _).mono ?_
   rintro e wJ ⟨rfl, hbJ⟩
   go_wp2_with fail
   go_ret
   exact ⟨rfl, hbwI.trans (hbJ.mono hbwI.size)⟩
  by_cases hB0 : cB = 0
  rotate_left
  ·have hcd : cd = cB := HCD.out.symm.trans (by unfold cmpC; rw [if_neg (by simpa using hA0), if_pos hB0])
   have h0 : cd ≠ 0 := by rw [hcd]; exact hB0
   have h3 : cd ≠ 370 := by rw [hcd]; exact HNB.out
   obtain ⟨hu, hn⟩ := HCU.out.bad h0
   have hev := HCU.out.non h0 h3
   subst hu hn hev
   have xU0 : wI.cell? ⟨wF.heap.size, 0, none⟩ = some (.int .i64 0) := xU
   have e1 : (cd == 0) = false := by simpa using h0
   have e2 : (cd != 0) = true := by simpa using h0
   have e3 : (cd != 370) = true := by simpa using h3
   have e4 : (cd == 370) = false := by simpa using h3
   have f1 : (cB == 0) = false := by simpa using hB0
   have f2 : (cB != 0) = true := by simpa using hB0
   have f3 : (cA == 0) = true := by simpa using hA0
   have f4 : (cA != 0) = false := by simpa using hA0
   clear h0 h3 hcd xU hA0 hB0
   go_upto_region 18 with fail
   go_wp2_with (first | (refine wpList_rowRG row_ev (by rfl) (.tmp 18) rfl rfl (vs := evZ) rfl rV ?_) | fail)
   refine (same_zero _).mono ?_
   rintro e wJ ⟨rfl, hbJ⟩
   go_wp2_with fail
   go_ret
   exact ⟨rfl, hbwI.trans (hbJ.mono hbwI.size)⟩
  by_cases hh : p.head.height = qh.height
  rotate_left
  ·have hcd : cd = 4 := HCD.out.symm.trans (by unfold cmpC; rw [if_neg (by simpa using hA0), if_neg (by simpa using hB0), if_neg (fun x => hh x.1), if_pos hh])
   have h0 : cd ≠ 0 := by rw [hcd]; decide
   have h3 : cd ≠ 370 := by rw [hcd]; decide
   obtain ⟨hu, hn⟩ := HCU.out.bad h0
   have hev := HCU.out.non h0 h3
   subst hu hn hev
   have xU0 : wI.cell? ⟨wF.heap.size, 0, none⟩ = some (.int .i64 0) := xU
   have e1 : (cd == 0) = false := by simpa using h0
   have e2 : (cd != 0) = true := by simpa using h0
   have e3 : (cd != 370) = true := by simpa using h3
   have e4 : (cd == 370) = false := by simpa using h3
   have hPA : PA = p.head := HPA.out.symm.trans (if_pos hA0)
   have hPB : PB = qh := HPB.out.symm.trans (if_pos hB0)
   rw [hPA] at xA
   rw [hPB] at xB
   have f1 : (cB == 0) = true := by simpa using hB0
   have f2 : (cB != 0) = false := by simpa using hB0
   have f3 : (cA == 0) = true := by simpa using hA0
   have f4 : (cA != 0) = false := by simpa using hA0
   have f5 : (p.head.height == qh.height) = false := by simpa using hh
   have f6 : (p.head.height != qh.height) = true := by simpa using hh
   clear h0 h3 hcd xU hA0 hB0 hh hPA hPB
   go_upto_region 18 with fail
   go_wp2_with (first | (refine wpList_rowRG row_ev (by rfl) (.tmp 18) rfl rfl (vs := evZ) rfl rV ?_) | fail)
   refine (same_zero _).mono ?_
   rintro e wJ ⟨rfl, hbJ⟩
   go_wp2_with fail
   go_ret
   exact ⟨rfl, hbwI.trans (hbJ.mono hbwI.size)⟩
  by_cases hd : dgH p.head = dgH qh
  rotate_left
  ·have hcd : cd = 370 := HCD.out.symm.trans (by unfold cmpC; rw [if_neg (by simpa using hA0), if_neg (by simpa using hB0), if_neg (fun x => hd x.2), if_neg (by simpa using hh)])
   have hPA : PA = p.head := HPA.out.symm.trans (if_pos hA0)
   have hPB : PB = qh := HPB.out.symm.trans (if_pos hB0)
   obtain ⟨hw1, hw2⟩ := HSP.out hA0 hB0 hh hd
   have hb1 : bq = false := by rw [← HBQ.out, hPA, hPB]; simpa using hd
   obtain ⟨hu, hn⟩ := HCU.out.bad (by rw [hcd]; decide)
   obtain ⟨ms, e1, f1, e2, f2, e3, f3, e4, f4, hev, hm, s1, s2, s3, s4⟩ := HCU.out.spl hcd
   obtain ⟨ma, mc, hms⟩ := hm.form
   subst hA0 hB0 hcd hu hn hev hb1 hms
   have xU0 : wI.cell? ⟨wF.heap.size, 0, none⟩ = some (.int .i64 0) := xU
   rw [hPA] at xA
   rw [hPB] at xB
   have g1 : (p.head.height == qh.height) = true := by simpa using hh
   have g2 : (p.head.height != qh.height) = false := by simpa using hh
   have hfi := HFI.out
   have qw := wcheck_any yy.next p.head qh p.sum (dgH qh) nA nB (.slice ma yy.next.length mc) e1 e2 e3 e4 f1 f2 f3 f4 base pt L wI (hm.keep hfi) (s1.keep hfi) (s2.keep hfi) (s3.keep hfi) (s4.keep hfi) HTBI.out HKI.out
   rw [hw1] at qw
   have l1 : decide ((0 : Int) < ((bothP nA nB).length : Int)) = true := by simp; omega
   have l2 : decide (((bothP nA nB).length : Int) > 0) = true := by simp; omega
   generalize bothP nA nB = ns at *
   clear xU hPA hPB hh hd hm s1 s2 s3 s4 hw1
   go_wp2_with (first | (refine wpList_rowR row_ev rfl (.tmp 18) rfl rfl (vs := evcs (.slice ma yy.next.length mc) p.head (.slice e1 p.head.skips.length f1) qh (.slice e2 qh.skips.length f2) p.sum (.slice e3 nA.length f3) (dgH qh) (.slice e4 nB.length f4)) rfl rV ?_) | fail)
   refine qw.mono ?_
   rintro e wJ ⟨v, rfl, hv1, _, hbJ⟩
   have hs := hv1 (by first | rfl | trivial)
   obtain ⟨va1, vc1, hva⟩ := hs.form
   subst hva
   go_wp2_with fail
   go_ret
   exact ⟨rfl, hbwI.trans (hbJ.mono hbwI.size)⟩
  have hPA : PA = p.head := HPA.out.symm.trans (if_pos hA0)
  have hPB : PB = qh := HPB.out.symm.trans (if_pos hB0)
  subst hA0 hB0 hPA hPB
  have hcd : cd = 0 := HCD.out.symm.trans (by unfold cmpC; rw [if_neg (by simp), if_neg (by simp), if_pos ⟨hh, hd⟩])
  obtain ⟨hu, hev⟩ := HCU.out.zero hcd
  subst hcd hu hev
  have hb1 : bq = true := by rw [← HBQ.out, hd]; simp
  subst hb1
  have g1 : (p.head.height == PB.height) = true := by simpa using hh
  have qs := samehead_any p.head.height p.head.epoch p.head.view p.head.last p.head.parent p.head.state p.head.receipts p.head.txs p.head.members p.head.next p.head.skips p.head.height p.head.epoch p.head.view p.head.last p.head.parent p.head.state p.head.receipts p.head.txs p.head.members p.head.next p.head.skips (.slice a3 p.head.skips.length c3) (.slice a1 p.head.skips.length c1) wI HSU.out HSA.out
  rw [show sameHd (⟨p.head.height, p.head.epoch, p.head.view, p.head.last, p.head.parent, p.head.state, p.head.receipts, p.head.txs, p.head.members, p.head.next, p.head.skips⟩ : Hd) ⟨p.head.height, p.head.epoch, p.head.view, p.head.last, p.head.parent, p.head.state, p.head.receipts, p.head.txs, p.head.members, p.head.next, p.head.skips⟩ = true from by simp [sameHd, sameL]] at qs
  have l18 : wF.heap.size + 1 < wI.heap.size := HL18.out
  clear hh hd
  go_wp2_with (first
   | (refine wpList_rowRG row_head (by rfl) (.tmp 104) rfl rfl (vs := hcs p.head (.slice a3 p.head.skips.length c3)) rfl rU ?_)
   | (refine wpList_rowRG row_head (by rfl) (.tmp 106) rfl rfl (vs := hcs p.head (.slice a1 p.head.skips.length c1)) rfl rA ?_)
   | fail)
  refine qs.mono ?_
  rintro e wJ ⟨rfl, hbJ⟩
  have rV := rg_keep rV l18 hbJ
  have hbwJ := hbwI.trans (hbJ.mono hbwI.size)
  go_wp2_with (first | (refine wpList_rowRG row_ev (by rfl) (.tmp 18) rfl rfl (vs := evZ) rfl rV ?_) | fail)
  refine (same_zero _).mono ?_
  rintro e wK ⟨rfl, hbK⟩
  go_wp2_with fail
  go_ret
  exact ⟨rfl, hbwJ.trans (hbK.mono hbwJ.size)⟩
end Go.Proofs.YthkpmlfaddlieaaGreatDoor
namespace Go.Proofs.YthkpmlfaddlieaaGreatDoor
open Go.ChangeShapes Go.WideShapes Go.ChangeAt Go.RowKit
theorem gK : Tryz.prog.globalNamed "pharos/sha.k" = some 1 := by kernel_rfl
theorem tK : (Tryz.prog.globals[1]?).map (·.type) = some 245 := by kernel_rfl
theorem laid_eq {H : Type} : (Rows.laid_pharos_sha_k : DataW H) = .agg (kList.map fun n => .lit (.int .u32 n)) := rfl
theorem c1K : Tryz.prog.cellsOf 158 = 1 := by kernel_rfl
theorem kt_of_laid {W : World} (h : laidMetH Tryz.prog [("pharos/sha.k", Rows.laid_pharos_sha_k)] W) : KT W := by
 rw [MakeChecks.laidMetH_plain _ _ _ (by kernel_rfl)] at h
 obtain ⟨ps, ⟨g0, t0, cs0, f0, p0, q0, hg0, ht0, hv0, hd0, hrest⟩, _, _⟩ := h
 obtain rfl := Option.some.inj (gK.symm.trans hg0)
 obtain rfl := Option.some.inj (tK.symm.trans ht0)
 rw [laid_eq] at hd0
 obtain ⟨xs, m1, _, hx1, hl, hlen, hel⟩ := DataW.trod_array Tryz.underlying245 hd0
 rw [c1K] at hel
 simp only [Prod.mk.injEq, DataW.agg.injEq] at hx1
 have hcell : ∀ i, i < 64 → W.cell? ⟨1, i, none⟩ = some (.int .u32 (kc i)) := by
  intro i hi
  have h3 := hel i (by omega)
  have hxi : i < xs.length := by omega
  rw [List.getElem?_eq_getElem hxi] at h3
  obtain ⟨n, e1, e2, _⟩ := DataW.trod_int Tryz.underlying158 h3
  have h4 := congrArg (fun l => l[i]?) hx1.1
  simp only [List.getElem?_map, List.getElem?_eq_getElem hxi, Option.map_some] at h4
  rw [e2, List.getElem?_eq_getElem (show i < kList.length from hi)] at h4
  simp at h4
  have hv := World.var?_cell hg0 hv0 i
  rw [Nat.mul_one] at e1
  have h5 := congrArg (fun l => l[0]?) e1
  simp at h5
  have hlt : i < kList.length := hi
  rw [hv, h5, show kc i = n from by rw [← h4]; simp [kc, List.getD, hlt]]
 refine ⟨hcell, ?_⟩
 rcases Nat.lt_or_ge 1 W.heap.size with hlt | hge
 ·exact hlt
 ·have := hcell 0 (by omega)
  simp [World.cell?, Array.getElem?_eq_none hge] at this
theorem laid_door (os : Os) (args : Array Value) : laidMetH Tryz.prog [("pharos/sha.k", Rows.laid_pharos_sha_k)] ((World.doorLaid Tryz.prog 14 os).forCall (fun _ _ => 0) ⟨#[], args, []⟩).memory :=
 laidMetH_of_parts3 (fuel := 8) (laidMet_of_run' 8 (by kernel_rfl) (by kernel_rfl)) (by kernel_rfl) (by kernel_rfl)
end Go.Proofs.YthkpmlfaddlieaaGreatDoor
