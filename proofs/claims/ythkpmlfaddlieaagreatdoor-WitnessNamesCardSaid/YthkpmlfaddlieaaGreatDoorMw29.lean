/- WNames. -/
import Derived.Lib.LazyBuf
import Derived.Test.YthkpmlfaddlieaaGreatDoorMw28
set_option linter.unnecessarySimpa false
set_option linter.unusedSimpArgs false
set_option linter.unusedVariables false
set_option maxRecDepth 100000
set_option maxHeartbeats 32000000
namespace Go.Proofs.YthkpmlfaddlieaaGreatDoor
open Go.RowKit Go.Shelf Pl
theorem AnsR.one {w : World} {h : Hd} {sk : Value} {nx : List (Bs × Int)} {l : List Bs} {hv nv sg : Value} (hA : AnsR w h sk nx l hv nv sg) (ht : Int) (d : Bs) : ∀ u ∈ acs ht hv nv d sg, u.oneCell' = true := by
 obtain ⟨⟨k, rfl, _⟩, h2, h3, _⟩ := hA
 obtain ⟨a2, c2, rfl⟩ := h2.form
 obtain ⟨a3, c3, rfl⟩ := h3.form
 intro u hu
 simp only [acs, List.mem_cons, List.not_mem_nil, or_false] at hu
 rcases hu with rfl | rfl | rfl | rfl | rfl | rfl | rfl | rfl | rfl | rfl | rfl <;> rfl
theorem encHR_le (h : Hd) : (encHR h).1.length ≤ 1000 := by
 cases hf : fineH h
 ·rw [encHR_no hf]; simp
 ·rw [encHR_yes hf]; exact writH_len hf
theorem SRow.two {w : World} {b0 k : Nat} {a b : Bs} (hb : b0 ≤ k) (hh : w.heap[k]? = some (.cells #[.string ⟨List.toArray a⟩, .string ⟨List.toArray b⟩] 9)) : SRow w b0 (.slice (some ⟨k, 0, none⟩) 2 2) [a, b] :=
 ⟨by simp [sv], .inr ⟨k, 2, #[.string ⟨List.toArray a⟩, .string ⟨List.toArray b⟩], rfl, hb, hh, Nat.le_refl _, by decide, rfl, by simp [sv]⟩⟩
theorem ent_take (E : List Ent) (m : Nat) (h : m < E.length) : E.take (m + 1) = E.take m ++ [E.getD m entZ] := by
 rw [List.take_add_one, List.getD_eq_getElem?_getD, List.getElem?_eq_getElem h]; rfl
theorem names_short {l : List (Bs × Int)} {A B : Hd} {d f : Bs} {nA nB : List Bs} {L : List Sg} (h : codeW l A B d nA f nB L = 0) : (bothP nA nB).length ≤ 7 ∧ ∀ n ∈ bothP nA nB, n.length ≤ 6 := by
 obtain ⟨_, _, _, _, _, _, g1, g2⟩ := codeW_zero h
 obtain ⟨_, n2⟩ := good_shortW g1
 obtain ⟨m1, _⟩ := good_shortW g2
 have hbl := both_len (bothP_is nA nB)
 refine ⟨by omega, fun n hn => ?_⟩
 obtain ⟨a1, _⟩ := ((bothP_is nA nB).2 n).1 hn
 obtain ⟨j, hj, he⟩ := List.getElem_of_mem a1
 have := n2 j hj
 rw [List.getD_eq_getElem?_getD, List.getElem?_eq_getElem hj] at this
 simp only [Option.getD_some] at this
 rwa [he] at this
theorem wnames_any (A : List Acc) (S : List (Bs × Int)) (B : List Bs) (many at_ by_ up : Int) (va vs vb fa fb : Value) (all : Bool) (la lb : List Bool) (w : World)
  (hA : AcL w va A) (hS : MS w vs S) (hB : SS w vb B) (hfa : BoL w fa la) (hfb : BoL w fb lb) (hk : KT w) :
  Calls Tryz.prog 3 #[.agg (wdcs va vs many vb).toArray, .agg (fkcs at_ by_ up fa fb all).toArray] w fun e w' => e = .returned (.bool true) ∧ Below w.heap.size w w' := by
 have hb2 : Below w.heap.size w ((w.alloc (.cells (wdcs va vs many vb).toArray 26)).alloc (.cells (fkcs at_ by_ up fa fb all).toArray 29)) := Below.allocS (Below.allocS (Below.refl _ _) _) _
 have N0 : Blk ((w.alloc (.cells (wdcs va vs many vb).toArray 26)).alloc (.cells (fkcs at_ by_ up fa fb all).toArray 29)) w.heap.size (wdcs va vs many vb).toArray := (Blk.new _ _ _).alloc _
 have N1 : Blk ((w.alloc (.cells (wdcs va vs many vb).toArray 26)).alloc (.cells (fkcs at_ by_ up fa fb all).toArray 29)) (w.heap.size + 1) (fkcs at_ by_ up fa fb all).toArray := Blk.new' (by simp)
 have q0 := worksw_any _ (hk.keep hb2)
 have HA := Lib.hid hA
 have HS := Lib.hid hS
 have HB := Lib.hid hB
 have HFA := Lib.hid hfa
 have HFB := Lib.hid hfb
 have HK := Lib.hid hk
 clear hA hS hB hfa hfb hk
 have q22 : ∀ (w : World) (a : Option Addr) (n c n' c' : Nat), (binOp .eql 31 (.slice a n c) (.slice none n' c')).run Tryz.prog w = .ok (.bool a.isNone) w := fun w a n c n' c' => Go.Lib.run_eql_slice_nil w _ _ a n c n' c' Tryz.underlying31
 go_enter Tryz.func3, Tryz.ntmps3
 go_wp2_with fail
 refine q0.mono ?_
 rintro e w3 ⟨rfl, hb⟩
 have N0 := N0.keep hb
 have N1 := N1.keep hb
 have hb3 := hb2.trans (hb.mono hb2.size)
 have q1 := made_any A S many va vs vb w3 (HA.out.keep hb3) (HS.out.keep hb3)
 clear q0 hb hb2
 go_wp2_with (first | (refine wpList_rowR row_wd rfl (.tmp 2) rfl rfl (vs := wdcs va vs many vb) rfl N0.range ?_) | fail)
 refine q1.mono ?_
 rintro e w4 ⟨hb, he⟩
 have N0 := N0.keep hb
 have N1 := N1.keep hb
 have hb4 := hb3.trans (hb.mono hb3.size)
 have q2 := wbig_any A S B many va vs vb w4 (HA.out.keep hb4) (HS.out.keep hb4) (HB.out.keep hb4)
 clear q1 hb hb3
 rcases he with rfl | ⟨v, E, rfl, hE, hLI, hE2, hEl6⟩
 ·go_wp2_with (first | (refine wpList_rowR row_wd rfl (.tmp 2) rfl rfl (vs := wdcs va vs many vb) rfl N0.range ?_) | fail)
  refine q2.mono ?_
  rintro e w5 ⟨⟨b, rfl⟩, hb⟩
  have hb5 := hb4.trans (hb.mono hb4.size)
  cases b
  ·go_wp2_with fail
   all_goals (go_ret; exact ⟨rfl, hb5⟩)
  ·go_wp2_with fail
   all_goals (go_ret; exact ⟨rfl, hb5⟩)
 ·obtain ⟨p0, hp0⟩ : ∃ p, E[0]? = some p := ⟨E[0], List.getElem?_eq_getElem (by omega)⟩
  obtain ⟨va0, vc, rfl⟩ := hE.form
  obtain ⟨g, off, _, _, _, _, e0, _⟩ := hE.at 0 p0 hp0
  subst e0
  go_wp2_with (first | (refine wpList_rowR row_wd rfl (.tmp 2) rfl rfl (vs := wdcs va vs many vb) rfl N0.range ?_) | fail)
  refine q2.mono ?_
  rintro e w5 ⟨⟨b, rfl⟩, hb⟩
  have hb5 := hb4.trans (hb.mono hb4.size)
  cases b
  rotate_left
  ·go_wp2_with fail
   all_goals (go_ret; exact ⟨rfl, hb5⟩)
  have N0 := N0.keep hb
  have N1 := N1.keep hb
  have hE5 := hE.keep hb
  have hnS : NoS w5 (w.heap.size + 1) := fun o s => by
   rw [N1.cell o]
   obtain ⟨a1, d1, h1⟩ := (HFA.out.form)
   obtain ⟨a2, d2, h2⟩ := (HFB.out.form)
   subst h1 h2
   rcases (show o = 0 ∨ o = 1 ∨ o = 2 ∨ o = 3 ∨ o = 4 ∨ o = 5 ∨ 6 ≤ o from by omega) with rfl | rfl | rfl | rfl | rfl | rfl | h <;> simp [fkcs]
   intro hx
   rw [List.getElem?_eq_none (by simpa using h)] at hx
   cases hx
  have c5 := N1.cell 5
  have f5 := N1.froz 5
  simp only [fkcs, List.getElem?_toArray, List.getElem?_cons_zero, List.getElem?_cons_succ] at c5
  have hl0 := N0.lt
  have hl1 := N1.lt
  clear q2 hb hb4 hE
  go_upto_region 7 with fail
  obtain ⟨w6, hw6⟩ : ∃ x, x = w5.setCell ⟨w.heap.size + 1, 5, none⟩ (.bool false) := ⟨_, rfl⟩
  rw [← hw6]
  have m6 : Mod [w.heap.size + 1] w5 w6 := by rw [hw6]; exact (Mod.refl _ _).setCell (.inl (by simp)) _
  have N1 : Blk w6 (w.heap.size + 1) (fkcs at_ by_ up fa fb false).toArray := by rw [hw6]; exact N1.set 5 (.bool false)
  have N0 := N0.mod m6 (by simp)
  have hb6 := Below.mod hb5 m6 hb5.size (by simp)
  have hE6 := hE5.noS m6 hnS
  have qf := fork_any A S B many at_ by_ up va vs vb (.slice (some ⟨g, off, none⟩) E.length vc) fa fb false la lb E w6 (HA.out.keep hb6) (HS.out.keep hb6) (HB.out.keep hb6) hLI hE6 hEl6 (HFA.out.keep hb6) (HFB.out.keep hb6)
  have HLI := Lib.hid hLI
  clear hw6 hE5 hnS m6 c5 f5 hp0 hb5
  go_wp2_with (first
   | (refine wpList_rowR row_wd rfl (.tmp 2) rfl rfl (vs := wdcs va vs many vb) rfl N0.range ?_)
   | (refine wpList_rowR row_fk rfl (.tmp 3) rfl rfl (vs := fkcs at_ by_ up fa fb false) rfl N1.range ?_)
   | fail)
  refine qf.mono ?_
  rintro e w7 ⟨i, j, p, q, qh, sk1, sk2, hv1, nv1, sg1, hv2, nv2, sg2, base, pt, L, hi, hp, hq, ⟨vw, hqe⟩, rfl, hR1, hR2, hTab, hbs, hOk, hb7⟩
  have HI := Lib.hid hi
  have HP := Lib.hid hp
  have HQ := Lib.hid hq
  have hil : i < E.length := (List.getElem?_eq_some_iff.1 hp).1
  clear hi hp hq
  have N0 := N0.keep hb7
  have N1 := N1.keep hb7
  have hE7 := hE6.keep hb7
  have hb07 := hb6.trans (hb7.mono hb6.size)
  have hz7 := hb7.size
  have hl0 := N0.lt
  have hl1 := N1.lt
  have hx8 : Below w7.heap.size w7 ((w7.alloc (.cells (acs 0 (.slice none 0 0) (.slice none 0 0) [] (.slice none 0 0)).toArray 42)).alloc (.cells (acs 0 (.slice none 0 0) (.slice none 0 0) [] (.slice none 0 0)).toArray 42)) := Below.allocS (Below.allocS (Below.refl _ _) _) _
  have P6 : Blk ((w7.alloc (.cells (acs 0 (.slice none 0 0) (.slice none 0 0) [] (.slice none 0 0)).toArray 42)).alloc (.cells (acs 0 (.slice none 0 0) (.slice none 0 0) [] (.slice none 0 0)).toArray 42)) w7.heap.size (acs 0 (.slice none 0 0) (.slice none 0 0) [] (.slice none 0 0)).toArray := (Blk.new _ _ _).alloc _
  have P7 : Blk ((w7.alloc (.cells (acs 0 (.slice none 0 0) (.slice none 0 0) [] (.slice none 0 0)).toArray 42)).alloc (.cells (acs 0 (.slice none 0 0) (.slice none 0 0) [] (.slice none 0 0)).toArray 42)) (w7.heap.size + 1) (acs 0 (.slice none 0 0) (.slice none 0 0) [] (.slice none 0 0)).toArray := Blk.new' (by simp)
  have Q6 : Typ ((w7.alloc (.cells (acs 0 (.slice none 0 0) (.slice none 0 0) [] (.slice none 0 0)).toArray 42)).alloc (.cells (acs 0 (.slice none 0 0) (.slice none 0 0) [] (.slice none 0 0)).toArray 42)) w7.heap.size 42 := (Typ.new _ _ _).keep (Below.allocS (Below.refl _ _) _)
  have Q7 : Typ ((w7.alloc (.cells (acs 0 (.slice none 0 0) (.slice none 0 0) [] (.slice none 0 0)).toArray 42)).alloc (.cells (acs 0 (.slice none 0 0) (.slice none 0 0) [] (.slice none 0 0)).toArray 42)) (w7.heap.size + 1) 42 := Typ.new' (by simp)
  have HR1 := Lib.hid hR1
  have HR2 := Lib.hid hR2
  have HTB := Lib.hid hTab
  have HOK := Lib.hid hOk
  have HQE := Lib.hid hqe
  have hbase : base ≤ pt ∧ pt < w7.heap.size := ⟨hTab.lt.2, hTab.lt.1⟩
  clear qf hE6 hb6 hb7 hR1 hR2 hTab hOk hqe
  go_upto_region 8 with (first
   | (refine wpList_rowStoreT row_ans rfl rfl (.tmp 6) (.tmp 45) rfl rfl (vs := acs (i : Int) hv1 nv1 p.sum sg1) rfl rfl (HR1.out.one _ _) (us := acs 0 (.slice none 0 0) (.slice none 0 0) [] (.slice none 0 0)) rfl P6 Q6 ?_; intro w8 N6 T6 m8)
   | (refine wpList_rowStoreT row_ans rfl rfl (.tmp 7) (.tmp 46) rfl rfl (vs := acs (j : Int) hv2 nv2 (dgH qh) sg2) rfl rfl (HR2.out.one _ _) (us := acs 0 (.slice none 0 0) (.slice none 0 0) [] (.slice none 0 0)) rfl (P7.mod m8 (by simp)) (Q7.mod m8 (by simp)) ?_; intro w9 N7 T7 m9)
   | fail)
  have hz9 : w7.heap.size + 2 ≤ w9.heap.size := by have h1 := m8.size; have h2 := m9.size; simp at h1; omega
  have hx9 : Below w7.heap.size w7 w9 := Below.mod (Below.mod hx8 m8 (by simp; omega) (by simp)) m9 (by have h1 := m8.size; simp at h1; omega) (by simp)
  have N6 := N6.mod m9 (by simp)
  have N0 := N0.keep hx9
  have N1 := N1.keep hx9
  have hE9 := hE7.keep hx9
  have hb09 := hb07.trans (hx9.mono hb07.size)
  have R1 := HR1.out.keep hx9
  have R2 := HR2.out.keep hx9
  have HTB := Lib.hid (HTB.out.keep hx9)
  have c0 := N1.cell 0
  simp only [fkcs, List.getElem?_toArray, List.getElem?_cons_zero, List.getElem?_cons_succ] at c0
  have q8 := fun W => below_any at_ E.length (by omega) (by omega) W
  rw [← HI.out] at q8
  obtain ⟨g2, off2, sk0, it0, st0, nx0, e1, hg, hr, hat⟩ := hE9.at i p HP.out
  injection e1 with e1
  injection e1 with e1 e2 _
  subst e1 e2
  obtain ⟨sa, sc, hst⟩ := hat.2.2.1.form
  simp only at hst
  subst hst
  have HC15 : Hid (w9.cell? ⟨g, off + i * 17 + 15, none⟩ = some (.slice sa p.set.length sc)) := Lib.hid (hr 15 _ rfl)
  have HMS : Hid (MS w9 (.slice sa p.set.length sc) p.set) := Lib.hid hat.2.2.1
  obtain ⟨⟨k1, hk1, K1⟩, _, hsg1, hsk1⟩ := R1
  obtain ⟨⟨k2, hk2, K2⟩, _, hsg2, hsk2⟩ := R2
  obtain ⟨nA, hnA⟩ : ∃ x, x = namedL p.set la p.set.length := ⟨_, rfl⟩
  obtain ⟨nB, hnB⟩ : ∃ x, x = namedL q.set lb q.set.length := ⟨_, rfl⟩
  rw [← hnA] at hsg1
  rw [← hnB] at hsg2
  obtain ⟨ka, kc, e3⟩ := hsk1.form
  obtain ⟨kb, kd, e4⟩ := hsk2.form
  obtain ⟨na, nc, e5⟩ := hsg1.form
  obtain ⟨nb, nd, e6⟩ := hsg2.form
  subst hk1 hk2 e3 e4 e5 e6
  have HSG1 := Lib.hid hsg1
  have HSG2 := Lib.hid hsg2
  have HSK1 := Lib.hid hsk1
  have HSK2 := Lib.hid hsk2
  have HE9 := Lib.hid hE9
  have i1 : (i : Int) < (E.length : Int) := by omega
  clear hr hat hsg1 hsg2 hsk1 hsk2 hnA hnB HR1 HR2 hE9 hE7 m8 m9 hx8 hx9 P6 P7 Q6 Q7 hb07
  go_wp2_with fail
  refine (q8 _).mono ?_
  rintro e w9' ⟨rfl, rfl⟩
  go_upto_region 9 with fail
  have r67 : w9'.rangeAt w7.heap.size 5 [.string ⟨List.toArray p.sum⟩, .slice na nA.length nc] := fun j v hj => by
   rcases j with _ | _ | j
   ·have := N6.range 5 v hj; simpa using this
   ·have := N6.range 6 v hj; simpa using this
   ·cases hj
  have r69 : w9'.rangeAt (w7.heap.size + 1) 5 [.string ⟨List.toArray (dgH qh)⟩, .slice nb nB.length nd] := fun j v hj => by
   rcases j with _ | _ | j
   ·have := N7.range 5 v hj; simpa using this
   ·have := N7.range 6 v hj; simpa using this
   ·cases hj
  have l6 := N6.lt
  have l7 := N7.lt
  have lk1 := K1.lt
  have lk2 := K2.lt
  refine wp_region_inv2 rfl 19 { dst := none, op := Op.store 54 (Operand.tmp 10) (Operand.tmp 70), type := 0, pos := "theorems.go:89", after := #[{ on := 18, ground := Ground.data }, { on := 17, ground := Ground.data }, { on := 0, ground := Ground.phase }, { on := 1, ground := Ground.phase }, { on := 2, ground := Ground.phase }, { on := 3, ground := Ground.phase }, { on := 4, ground := Ground.phase }, { on := 5, ground := Ground.phase }, { on := 6, ground := Ground.phase }, { on := 7, ground := Ground.phase }, { on := 8, ground := Ground.phase }, { on := 9, ground := Ground.phase }, { on := 10, ground := Ground.phase }, { on := 11, ground := Ground.phase }, { on := 12, ground := Ground.phase }, { on := 13, ground := Ground.phase }, { on := 14, ground := Ground.phase }, { on := 15, ground := Ground.phase }, { on := 16, ground := Ground.phase }, { on := 17, ground := Ground.phase }, { on := 18, ground := Ground.phase }], guard := none } rfl (by kernel_rfl) [53, 54, 55, 56, 57, 58, 59, 60, 61, 62, 63, 64, 65, 66, 67, 68, 69, 70, 10] (by kernel_rfl) [.eq (.slice (some ⟨g, off, none⟩) E.length vc), .eq (.int .i64 ((i : Int))), .eq (.pointer (some ⟨g, off + i * 17, none⟩)), .eq (.pointer (some ⟨g, off + i * 17 + 15, none⟩)), .eq (.slice sa p.set.length sc), .eq (.pointer (some ⟨w7.heap.size, 2, none⟩)), .eq (.slice (some ⟨k1, 0, none⟩) 1 1), .eq (.pointer (some ⟨k1, 0, none⟩)), .eq (.agg (hcs p.head (.slice ka p.head.skips.length kc)).toArray), .eq (.pointer (some ⟨w7.heap.size + 1, 2, none⟩)), .eq (.slice (some ⟨k2, 0, none⟩) 1 1), .eq (.pointer (some ⟨k2, 0, none⟩)), .eq (.agg (hcs qh (.slice kb qh.skips.length kd)).toArray), .eq (.pointer (some ⟨w7.heap.size, 5, none⟩)), .eq (.agg #[.string ⟨List.toArray p.sum⟩, .slice na nA.length nc]), .eq (.pointer (some ⟨w7.heap.size + 1, 5, none⟩)), .eq (.agg #[.string ⟨List.toArray (dgH qh)⟩, .slice nb nB.length nd]), .eq (.agg (evcs (.slice sa p.set.length sc) p.head (.slice ka p.head.skips.length kc) qh (.slice kb qh.skips.length kd) p.sum (.slice na nA.length nc) (dgH qh) (.slice nb nB.length nd)).toArray), pmBlk w9'.heap.size 54 (evcs (.slice none 0 0) hdZ (.slice none 0 0) hdZ (.slice none 0 0) [] (.slice none 0 0) [] (.slice none 0 0)).toArray] (fun i hi => ?_) (fun vals wF hF hv => ?_)
  focus
   obtain rfl | rfl | rfl | rfl | rfl | rfl | rfl | rfl | rfl | rfl | rfl | rfl | rfl | rfl | rfl | rfl | rfl | rfl | rfl : i = 0 ∨ i = 1 ∨ i = 2 ∨ i = 3 ∨ i = 4 ∨ i = 5 ∨ i = 6 ∨ i = 7 ∨ i = 8 ∨ i = 9 ∨ i = 10 ∨ i = 11 ∨ i = 12 ∨ i = 13 ∨ i = 14 ∨ i = 15 ∨ i = 16 ∨ i = 17 ∨ i = 18 := by omega
   focus
    intro o ho a wo hS hdep hout
    obtain rfl := Option.some.inj (show some ({ dst := some 53, op := Op.move (Operand.tmp 5), type := 31, pos := "theorems.go:89", after := #[], guard := none } : Oper) = some o from ho)
    have e5 : a.eval (.tmp 5) = .slice (some ⟨g, off, none⟩) E.length vc := hout 5 rfl
    have evc : ∀ v, a.eval (.const v) = v := fun _ => rfl
    have evf : ∀ f, a.eval (.func f) = .func (.func f) #[] #[] := fun _ => rfl
    clear hdep hout ho
    refine ob_val (.slice (some ⟨g, off, none⟩) E.length vc) ?_ rfl
    generalize a.eval = ev at *
    (go_simp; try rfl)
   focus
    intro o ho a wo hS hdep hout
    obtain rfl := Option.some.inj (show some ({ dst := some 54, op := Op.move (Operand.tmp 9), type := 3, pos := "theorems.go:89", after := #[], guard := none } : Oper) = some o from ho)
    have e9 : a.eval (.tmp 9) = .int .i64 ((i : Int)) := hout 9 rfl
    have evc : ∀ v, a.eval (.const v) = v := fun _ => rfl
    have evf : ∀ f, a.eval (.func f) = .func (.func f) #[] #[] := fun _ => rfl
    clear hdep hout ho
    refine ob_val (.int .i64 ((i : Int))) ?_ rfl
    generalize a.eval = ev at *
    (go_simp; try rfl)
   focus
    intro o ho a wo hS hdep hout
    obtain rfl := Option.some.inj (show some ({ dst := some 55, op := Op.indexAddr 31 (Operand.tmp 53) (Operand.tmp 54), type := 0, pos := "theorems.go:89", after := #[{ on := 0, ground := Ground.data }, { on := 1, ground := Ground.data }], guard := none } : Oper) = some o from ho)
    have e53 : a.eval (.tmp 53) = .slice (some ⟨g, off, none⟩) E.length vc := hdep 0 rfl
    have e54 : a.eval (.tmp 54) = .int .i64 ((i : Int)) := hdep 1 rfl
    have evc : ∀ v, a.eval (.const v) = v := fun _ => rfl
    have evf : ∀ f, a.eval (.func f) = .func (.func f) #[] #[] := fun _ => rfl
    clear hdep hout ho
    refine ob_val (.pointer (some ⟨g, off + i * 17, none⟩)) ?_ rfl
    generalize a.eval = ev at *
    (go_simp; try rfl)
   focus
    intro o ho a wo hS hdep hout
    obtain rfl := Option.some.inj (show some ({ dst := some 56, op := Op.fieldAddr 52 (Operand.tmp 55) 5, type := 0, pos := "theorems.go:89", after := #[{ on := 2, ground := Ground.data }], guard := none } : Oper) = some o from ho)
    have e55 : a.eval (.tmp 55) = .pointer (some ⟨g, off + i * 17, none⟩) := hdep 2 rfl
    have evc : ∀ v, a.eval (.const v) = v := fun _ => rfl
    have evf : ∀ f, a.eval (.func f) = .func (.func f) #[] #[] := fun _ => rfl
    clear hdep hout ho
    refine ob_val (.pointer (some ⟨g, off + i * 17 + 15, none⟩)) ?_ rfl
    generalize a.eval = ev at *
    (go_simp; try rfl)
   focus
    intro o ho a wo hS hdep hout
    obtain rfl := Option.some.inj (show some ({ dst := some 57, op := Op.load 23 (Operand.tmp 56), type := 23, pos := "theorems.go:89", after := #[{ on := 3, ground := Ground.data }], guard := none } : Oper) = some o from ho)
    have e56 : a.eval (.tmp 56) = .pointer (some ⟨g, off + i * 17 + 15, none⟩) := hdep 3 rfl
    have evc : ∀ v, a.eval (.const v) = v := fun _ => rfl
    have evf : ∀ f, a.eval (.func f) = .func (.func f) #[] #[] := fun _ => rfl
    clear hdep hout ho
    refine ob_val (.slice sa p.set.length sc) ?_ rfl
    generalize a.eval = ev at *
    exact (by have c := (hS.cell (p := ⟨g, off + i * 17 + 15, none⟩) hg).trans HC15.out; go_simp; try rfl)
   focus
    intro o ho a wo hS hdep hout
    obtain rfl := Option.some.inj (show some ({ dst := some 58, op := Op.fieldAddr 42 (Operand.tmp 6) 2, type := 0, pos := "theorems.go:89", after := #[], guard := none } : Oper) = some o from ho)
    have e6 : a.eval (.tmp 6) = .pointer (some ⟨w7.heap.size, 0, none⟩) := hout 6 rfl
    have evc : ∀ v, a.eval (.const v) = v := fun _ => rfl
    have evf : ∀ f, a.eval (.func f) = .func (.func f) #[] #[] := fun _ => rfl
    clear hdep hout ho
    refine ob_val (.pointer (some ⟨w7.heap.size, 2, none⟩)) ?_ rfl
    generalize a.eval = ev at *
    (go_simp; try rfl)
   focus
    intro o ho a wo hS hdep hout
    obtain rfl := Option.some.inj (show some ({ dst := some 59, op := Op.load 35 (Operand.tmp 58), type := 35, pos := "theorems.go:89", after := #[{ on := 5, ground := Ground.data }], guard := none } : Oper) = some o from ho)
    have e58 : a.eval (.tmp 58) = .pointer (some ⟨w7.heap.size, 2, none⟩) := hdep 5 rfl
    have evc : ∀ v, a.eval (.const v) = v := fun _ => rfl
    have evf : ∀ f, a.eval (.func f) = .func (.func f) #[] #[] := fun _ => rfl
    clear hdep hout ho
    refine ob_val (.slice (some ⟨k1, 0, none⟩) 1 1) ?_ rfl
    generalize a.eval = ev at *
    exact (by have c := (N6.keep hS).cell 2; simp only [acs, List.getElem?_toArray, List.getElem?_cons_zero, List.getElem?_cons_succ] at c; go_simp; try rfl)
   focus
    intro o ho a wo hS hdep hout
    obtain rfl := Option.some.inj (show some ({ dst := some 60, op := Op.indexAddr 35 (Operand.tmp 59) (Operand.const (Value.int IntKind.i64 0)), type := 0, pos := "theorems.go:89", after := #[{ on := 6, ground := Ground.data }], guard := none } : Oper) = some o from ho)
    have e59 : a.eval (.tmp 59) = .slice (some ⟨k1, 0, none⟩) 1 1 := hdep 6 rfl
    have evc : ∀ v, a.eval (.const v) = v := fun _ => rfl
    have evf : ∀ f, a.eval (.func f) = .func (.func f) #[] #[] := fun _ => rfl
    clear hdep hout ho
    refine ob_val (.pointer (some ⟨k1, 0, none⟩)) ?_ rfl
    generalize a.eval = ev at *
    (go_simp; try rfl)
   focus
    intro o ho a wo hS hdep hout
    obtain rfl := Option.some.inj (show some ({ dst := some 61, op := Op.load 48 (Operand.tmp 60), type := 48, pos := "theorems.go:89", after := #[{ on := 7, ground := Ground.data }], guard := none } : Oper) = some o from ho)
    have e60 : a.eval (.tmp 60) = .pointer (some ⟨k1, 0, none⟩) := hdep 7 rfl
    have evc : ∀ v, a.eval (.const v) = v := fun _ => rfl
    have evf : ∀ f, a.eval (.func f) = .func (.func f) #[] #[] := fun _ => rfl
    clear hdep hout ho
    refine ob_val (.agg (hcs p.head (.slice ka p.head.skips.length kc)).toArray) ?_ rfl
    exact exec_rowR row_head (.tmp 60) rfl e60 rfl (K1.keep hS).range
   focus
    intro o ho a wo hS hdep hout
    obtain rfl := Option.some.inj (show some ({ dst := some 62, op := Op.fieldAddr 42 (Operand.tmp 7) 2, type := 0, pos := "theorems.go:89", after := #[], guard := none } : Oper) = some o from ho)
    have e7 : a.eval (.tmp 7) = .pointer (some ⟨w7.heap.size + 1, 0, none⟩) := hout 7 rfl
    have evc : ∀ v, a.eval (.const v) = v := fun _ => rfl
    have evf : ∀ f, a.eval (.func f) = .func (.func f) #[] #[] := fun _ => rfl
    clear hdep hout ho
    refine ob_val (.pointer (some ⟨w7.heap.size + 1, 2, none⟩)) ?_ rfl
    generalize a.eval = ev at *
    (go_simp; try rfl)
   focus
    intro o ho a wo hS hdep hout
    obtain rfl := Option.some.inj (show some ({ dst := some 63, op := Op.load 35 (Operand.tmp 62), type := 35, pos := "theorems.go:89", after := #[{ on := 9, ground := Ground.data }], guard := none } : Oper) = some o from ho)
    have e62 : a.eval (.tmp 62) = .pointer (some ⟨w7.heap.size + 1, 2, none⟩) := hdep 9 rfl
    have evc : ∀ v, a.eval (.const v) = v := fun _ => rfl
    have evf : ∀ f, a.eval (.func f) = .func (.func f) #[] #[] := fun _ => rfl
    clear hdep hout ho
    refine ob_val (.slice (some ⟨k2, 0, none⟩) 1 1) ?_ rfl
    generalize a.eval = ev at *
    exact (by have c := (N7.keep hS).cell 2; simp only [acs, List.getElem?_toArray, List.getElem?_cons_zero, List.getElem?_cons_succ] at c; go_simp; try rfl)
   focus
    intro o ho a wo hS hdep hout
    obtain rfl := Option.some.inj (show some ({ dst := some 64, op := Op.indexAddr 35 (Operand.tmp 63) (Operand.const (Value.int IntKind.i64 0)), type := 0, pos := "theorems.go:89", after := #[{ on := 10, ground := Ground.data }], guard := none } : Oper) = some o from ho)
    have e63 : a.eval (.tmp 63) = .slice (some ⟨k2, 0, none⟩) 1 1 := hdep 10 rfl
    have evc : ∀ v, a.eval (.const v) = v := fun _ => rfl
    have evf : ∀ f, a.eval (.func f) = .func (.func f) #[] #[] := fun _ => rfl
    clear hdep hout ho
    refine ob_val (.pointer (some ⟨k2, 0, none⟩)) ?_ rfl
    generalize a.eval = ev at *
    (go_simp; try rfl)
   focus
    intro o ho a wo hS hdep hout
    obtain rfl := Option.some.inj (show some ({ dst := some 65, op := Op.load 48 (Operand.tmp 64), type := 48, pos := "theorems.go:89", after := #[{ on := 11, ground := Ground.data }], guard := none } : Oper) = some o from ho)
    have e64 : a.eval (.tmp 64) = .pointer (some ⟨k2, 0, none⟩) := hdep 11 rfl
    have evc : ∀ v, a.eval (.const v) = v := fun _ => rfl
    have evf : ∀ f, a.eval (.func f) = .func (.func f) #[] #[] := fun _ => rfl
    clear hdep hout ho
    refine ob_val (.agg (hcs qh (.slice kb qh.skips.length kd)).toArray) ?_ rfl
    exact exec_rowR row_head (.tmp 64) rfl e64 rfl (K2.keep hS).range
   focus
    intro o ho a wo hS hdep hout
    obtain rfl := Option.some.inj (show some ({ dst := some 66, op := Op.fieldAddr 42 (Operand.tmp 6) 5, type := 0, pos := "theorems.go:89", after := #[], guard := none } : Oper) = some o from ho)
    have e6 : a.eval (.tmp 6) = .pointer (some ⟨w7.heap.size, 0, none⟩) := hout 6 rfl
    have evc : ∀ v, a.eval (.const v) = v := fun _ => rfl
    have evf : ∀ f, a.eval (.func f) = .func (.func f) #[] #[] := fun _ => rfl
    clear hdep hout ho
    refine ob_val (.pointer (some ⟨w7.heap.size, 5, none⟩)) ?_ rfl
    generalize a.eval = ev at *
    (go_simp; try rfl)
   focus
    intro o ho a wo hS hdep hout
    obtain rfl := Option.some.inj (show some ({ dst := some 67, op := Op.load 37 (Operand.tmp 66), type := 37, pos := "theorems.go:89", after := #[{ on := 13, ground := Ground.data }], guard := none } : Oper) = some o from ho)
    have e66 : a.eval (.tmp 66) = .pointer (some ⟨w7.heap.size, 5, none⟩) := hdep 13 rfl
    have evc : ∀ v, a.eval (.const v) = v := fun _ => rfl
    have evf : ∀ f, a.eval (.func f) = .func (.func f) #[] #[] := fun _ => rfl
    clear hdep hout ho
    refine ob_val (.agg #[.string ⟨List.toArray p.sum⟩, .slice na nA.length nc]) ?_ rfl
    exact exec_rowR row_cert (.tmp 66) rfl e66 (vs := [.string ⟨List.toArray p.sum⟩, .slice na nA.length nc]) rfl (rg_keep r67 l6 hS)
   focus
    intro o ho a wo hS hdep hout
    obtain rfl := Option.some.inj (show some ({ dst := some 68, op := Op.fieldAddr 42 (Operand.tmp 7) 5, type := 0, pos := "theorems.go:89", after := #[], guard := none } : Oper) = some o from ho)
    have e7 : a.eval (.tmp 7) = .pointer (some ⟨w7.heap.size + 1, 0, none⟩) := hout 7 rfl
    have evc : ∀ v, a.eval (.const v) = v := fun _ => rfl
    have evf : ∀ f, a.eval (.func f) = .func (.func f) #[] #[] := fun _ => rfl
    clear hdep hout ho
    refine ob_val (.pointer (some ⟨w7.heap.size + 1, 5, none⟩)) ?_ rfl
    generalize a.eval = ev at *
    (go_simp; try rfl)
   focus
    intro o ho a wo hS hdep hout
    obtain rfl := Option.some.inj (show some ({ dst := some 69, op := Op.load 37 (Operand.tmp 68), type := 37, pos := "theorems.go:89", after := #[{ on := 15, ground := Ground.data }], guard := none } : Oper) = some o from ho)
    have e68 : a.eval (.tmp 68) = .pointer (some ⟨w7.heap.size + 1, 5, none⟩) := hdep 15 rfl
    have evc : ∀ v, a.eval (.const v) = v := fun _ => rfl
    have evf : ∀ f, a.eval (.func f) = .func (.func f) #[] #[] := fun _ => rfl
    clear hdep hout ho
    refine ob_val (.agg #[.string ⟨List.toArray (dgH qh)⟩, .slice nb nB.length nd]) ?_ rfl
    exact exec_rowR row_cert (.tmp 68) rfl e68 (vs := [.string ⟨List.toArray (dgH qh)⟩, .slice nb nB.length nd]) rfl (rg_keep r69 l7 hS)
   focus
    intro o ho a wo hS hdep hout
    obtain rfl := Option.some.inj (show some ({ dst := some 70, op := Op.build 54 #[(0, Operand.tmp 57), (1, Operand.tmp 61), (2, Operand.tmp 65), (3, Operand.tmp 67), (4, Operand.tmp 69)], type := 54, pos := "theorems.go:89", after := #[{ on := 4, ground := Ground.data }, { on := 8, ground := Ground.data }, { on := 12, ground := Ground.data }, { on := 14, ground := Ground.data }, { on := 16, ground := Ground.data }], guard := none } : Oper) = some o from ho)
    have e57 : a.eval (.tmp 57) = .slice sa p.set.length sc := hdep 4 rfl
    have e61 : a.eval (.tmp 61) = .agg (hcs p.head (.slice ka p.head.skips.length kc)).toArray := hdep 8 rfl
    have e65 : a.eval (.tmp 65) = .agg (hcs qh (.slice kb qh.skips.length kd)).toArray := hdep 12 rfl
    have e67 : a.eval (.tmp 67) = .agg #[.string ⟨List.toArray p.sum⟩, .slice na nA.length nc] := hdep 14 rfl
    have e69 : a.eval (.tmp 69) = .agg #[.string ⟨List.toArray (dgH qh)⟩, .slice nb nB.length nd] := hdep 16 rfl
    have evc : ∀ v, a.eval (.const v) = v := fun _ => rfl
    have evf : ∀ f, a.eval (.func f) = .func (.func f) #[] #[] := fun _ => rfl
    clear hdep hout ho
    refine ob_val (.agg (evcs (.slice sa p.set.length sc) p.head (.slice ka p.head.skips.length kc) qh (.slice kb qh.skips.length kd) p.sum (.slice na nA.length nc) (dgH qh) (.slice nb nB.length nd)).toArray) ?_ rfl
    generalize a.eval = ev at *
    exact (by unfold execOp; simp only [List.map_toArray, List.map_cons, List.map_nil, e57, e61, e65, e67, e69]; kernel_rfl)
   focus
    intro o ho a wo hS hdep hout
    obtain rfl := Option.some.inj (show some ({ dst := some 10, op := Op.alloc 54, type := 0, pos := "theorems.go:89", after := #[], guard := none } : Oper) = some o from ho)
    have evc : ∀ v, a.eval (.const v) = v := fun _ => rfl
    have evf : ∀ f, a.eval (.func f) = .func (.func f) #[] #[] := fun _ => rfl
    clear hdep hout ho
    exact ob_new 54 _ (fun k => .pointer (some ⟨k, 0, none⟩)) (by kernel_rfl) (fun k w' h1 h2 h3 => ⟨k, rfl, Nat.le_trans hS.size h1, Blk.of_heap h2 h3, _, h2⟩)
  have v0 : vals 0 = .slice (some ⟨g, off, none⟩) E.length vc := hv 0 (by omega)
  have v1 : vals 1 = .int .i64 ((i : Int)) := hv 1 (by omega)
  have v2 : vals 2 = .pointer (some ⟨g, off + i * 17, none⟩) := hv 2 (by omega)
  have v3 : vals 3 = .pointer (some ⟨g, off + i * 17 + 15, none⟩) := hv 3 (by omega)
  have v4 : vals 4 = .slice sa p.set.length sc := hv 4 (by omega)
  have v5 : vals 5 = .pointer (some ⟨w7.heap.size, 2, none⟩) := hv 5 (by omega)
  have v6 : vals 6 = .slice (some ⟨k1, 0, none⟩) 1 1 := hv 6 (by omega)
  have v7 : vals 7 = .pointer (some ⟨k1, 0, none⟩) := hv 7 (by omega)
  have v8 : vals 8 = .agg (hcs p.head (.slice ka p.head.skips.length kc)).toArray := hv 8 (by omega)
  have v9 : vals 9 = .pointer (some ⟨w7.heap.size + 1, 2, none⟩) := hv 9 (by omega)
  have v10 : vals 10 = .slice (some ⟨k2, 0, none⟩) 1 1 := hv 10 (by omega)
  have v11 : vals 11 = .pointer (some ⟨k2, 0, none⟩) := hv 11 (by omega)
  have v12 : vals 12 = .agg (hcs qh (.slice kb qh.skips.length kd)).toArray := hv 12 (by omega)
  have v13 : vals 13 = .pointer (some ⟨w7.heap.size, 5, none⟩) := hv 13 (by omega)
  have v14 : vals 14 = .agg #[.string ⟨List.toArray p.sum⟩, .slice na nA.length nc] := hv 14 (by omega)
  have v15 : vals 15 = .pointer (some ⟨w7.heap.size + 1, 5, none⟩) := hv 15 (by omega)
  have v16 : vals 16 = .agg #[.string ⟨List.toArray (dgH qh)⟩, .slice nb nB.length nd] := hv 16 (by omega)
  have v17 : vals 17 = .agg (evcs (.slice sa p.set.length sc) p.head (.slice ka p.head.skips.length kc) qh (.slice kb qh.skips.length kd) p.sum (.slice na nA.length nc) (dgH qh) (.slice nb nB.length nd)).toArray := hv 17 (by omega)
  have v18 : Pm.p (pmBlk w9'.heap.size 54 (evcs (.slice none 0 0) hdZ (.slice none 0 0) hdZ (.slice none 0 0) [] (.slice none 0 0) [] (.slice none 0 0)).toArray) wF (vals 18) := hv 18 (by omega)
  simp only [putD, Nat.zero_add, Nat.reduceAdd, v0, v1, v2, v3, v4, v5, v6, v7, v8, v9, v10, v11, v12, v13, v14, v15, v16, v17]
  clear v0 v1 v2 v3 v4 v5 v6 v7 v8 v9 v10 v11 v12 v13 v14 v15 v16 v17 hv
  try simp only [pna, pnb, pnc, pnd, pne]
  obtain ⟨kE, hkE, hkEB, KB, KT⟩ := v18
  rw [hkE]
  refine wp_rowST row_ev (.tmp 10) (.tmp 70) rfl rfl (vs := evcs (.slice sa p.set.length sc) p.head (.slice ka p.head.skips.length kc) qh (.slice kb qh.skips.length kd) p.sum (.slice na nA.length nc) (dgH qh) (.slice nb nB.length nd)) rfl rfl (by simp [evcs, hcs, Value.oneCell']) (us := evcs (.slice none 0 0) hdZ (.slice none 0 0) hdZ (.slice none 0 0) [] (.slice none 0 0) [] (.slice none 0 0)) rfl KB KT ?_
  intro w10 NE TE mE
  have hb910 : Below w9'.heap.size w9' w10 := Below.mod hF mE hF.size (by simpa using hkEB)
  have hb10 := hb09.trans (hb910.mono hb09.size)
  have N0 := N0.keep hb910
  have HTB := Lib.hid (HTB.out.keep hb910)
  have HMS := Lib.hid (HMS.out.keep hb910)
  have HSG1 := Lib.hid (HSG1.out.keep hb910)
  have HSG2 := Lib.hid (HSG2.out.keep hb910)
  have HSK1 := Lib.hid (HSK1.out.keep hb910)
  have HSK2 := Lib.hid (HSK2.out.keep hb910)
  have HE10 := Lib.hid (HE9.out.keep hb910)
  have hl10 := hb910.size
  have HK10 := Lib.hid (HK.out.keep hb10)
  have q10 := wcheck_any p.set p.head qh p.sum (dgH qh) nA nB (.slice sa p.set.length sc) ka kb na nb kc kd nc nd base pt L w10 HMS.out HSK1.out HSK2.out HSG1.out HSG2.out HTB.out HK10.out
  clear KB KT hkE mE hF r67 r69 N6 N7 T6 T7 K1 K2 HC15 HE9 hb09 hb910 c0 q8 lk1 lk2 N1 hl0 hl1
  obtain ⟨rA, rB, rC, rD⟩ := ev_sub NE
  have cS := NE.cell 0
  simp only [evcs, hcs, List.cons_append, List.nil_append, List.getElem?_toArray, List.getElem?_cons_zero, List.getElem?_cons_succ] at cS
  have cA : w10.cell? ⟨kE, 23, none⟩ = some (.string ⟨List.toArray p.sum⟩) := rC 0 _ rfl
  have cB : w10.cell? ⟨kE, 25, none⟩ = some (.string ⟨List.toArray (dgH qh)⟩) := rD 0 _ rfl
  have hlE := NE.lt
  obtain ⟨xs, hxs⟩ : ∃ x, x = evcs (.slice sa p.set.length sc) p.head (.slice ka p.head.skips.length kc) qh (.slice kb qh.skips.length kd) p.sum (.slice na nA.length nc) (dgH qh) (.slice nb nB.length nd) := ⟨_, rfl⟩
  rw [← hxs] at NE q10
  have HXS := Lib.hid hxs
  clear hxs rC rD
  have HNE := Lib.hid NE
  have hps : p.set = S := by
   have := (HLI.out.all i hil).st
   rw [List.getD_eq_getElem?_getD, HP.out] at this
   exact this
  have HPS := Lib.hid hps
  clear hps
  go_wp2_with (first | (refine wpList_rowR row_ev rfl (.tmp 10) rfl rfl (vs := xs) (by rw [HXS.out]; rfl) NE.range ?_) | fail)
  generalize hcd : codeW p.set p.head qh p.sum nA (dgH qh) nB L = cd at *
  refine q10.mono ?_
  rintro e w11 ⟨v, rfl, hv1, hv0, hb11⟩
  have hb011 := hb10.trans (hb11.mono hb10.size)
  by_cases hc0 : cd = 0
  rotate_left
  ·have hv := hv0 hc0
   subst hv
   have m1 : (cd != 0) = true := by simpa using hc0
   clear hv1 hv0 q10
   go_wp2_with fail
   all_goals (go_ret; exact ⟨rfl, hb011⟩)
  have hS11 := hv1 hc0
  obtain ⟨hn7, hn6⟩ := names_short (hcd.trans hc0)
  have hlaw := names_law HLI.out HP.out HOK.out (by have := hcd.trans hc0; rw [HPS.out] at this; exact this)
  rw [← HPS.out] at hlaw
  subst hc0
  clear hv1 hv0 q10 hcd NE
  generalize bothP nA nB = ns at *
  obtain ⟨lw1, lw2, lw3, lw4, lw5, lw6⟩ := hlaw
  have HLW := Lib.hid lw6
  have hob := of_bound ns lw5
  have htb := totM_bound p.set
  obtain ⟨ya, yc, hy⟩ := hS11.form
  subst hy
  have HY := Lib.hid hS11.ss
  have hl11 := hb11.size
  have rA := rg_keep rA hlE hb11
  have rB := rg_keep rB hlE hb11
  have cS := (hb11.cell (p := ⟨kE, 0, none⟩) hlE).trans cS
  have cA := (hb11.cell (p := ⟨kE, 23, none⟩) hlE).trans cA
  have cB := (hb11.cell (p := ⟨kE, 25, none⟩) hlE).trans cB
  have hlE : kE < w11.heap.size := by omega
  have N0 := N0.keep hb11
  have HTB := Lib.hid (HTB.out.keep hb11)
  have HMS := Lib.hid (HMS.out.keep hb11)
  have HSK1 := Lib.hid (HSK1.out.keep hb11)
  have HSK2 := Lib.hid (HSK2.out.keep hb11)
  have HE11 := Lib.hid (HE10.out.keep hb11)
  clear hS11 lw6 hb11 hb10 HE10 HSG1 HSG2 HK10
  have o1 : decide (ofM p.set ns ≤ mostM p.set) = false := by simp; omega
  have o2 : IntKind.i64.wrap (3 * ofM p.set ns) = 3 * ofM p.set ns := by rw [IntKind.wrap_i64]; omega
  have o3 : decide (3 * ofM p.set ns ≤ totM p.set) = false := by simp; omega
  generalize hof : ofM p.set ns = oc at *
  generalize hmo : mostM p.set = mo at *
  generalize hto : totM p.set = tt at *
  have qo := fun W (hW : Below w11.heap.size w11 W) => mof_any (.slice sa p.set.length sc) (.slice ya ns.length yc) p.set ns (by omega) (fun i hi => by have := hn6 (ns.getD i []) (by rw [List.getD_eq_getElem?_getD, List.getElem?_eq_getElem hi]; exact List.getElem_mem _); unfold maxLen; omega) W (HMS.out.keep hW) (HY.out.keep hW)
  have qm := fun W (hW : Below w11.heap.size w11 W) => mmost_any (.slice sa p.set.length sc) p.set W (HMS.out.keep hW)
  have qt := fun W (hW : Below w11.heap.size w11 W) => mtotal_any (.slice sa p.set.length sc) p.set W (HMS.out.keep hW)
  rw [hof] at qo
  rw [hmo] at qm
  rw [hto] at qt
  clear hof hmo hto
  go_upto_region 13 with fail
  refine wpH_start (by kernel_rfl) (fun hS => ?_)
  (refine hP 0 ?_ ⟨some 82, .fieldAddr 54 (.tmp 10) 0, 0, "", #[], none⟩ hS ?_ ?_; rotate_left; focus (intro w; go_simp; try with_reducible rfl))
  try simp only [pna, pnb, pnc, pnd, pne]
  refine wpH_load 1 (.slice sa p.set.length sc) (oi := { dst := some 83, op := Op.load 23 (Operand.tmp 82), type := 23, pos := "theorems.go:94", after := #[{ on := 0, ground := Ground.data }], guard := none }) rfl (by kernel_rfl) (by kernel_rfl) (by kernel_rfl) (by rfl) hS (fun _ _ _ h => h) (fun w' hb2 => (by have c := (hb2.cell (p := ⟨kE, 0, none⟩) hlE).trans cS; go_simp; try rfl)) ?_
  try simp only [pna, pnb, pnc, pnd, pne]
  (refine hP 2 ?_ ⟨some 84, .move (.tmp 11), 24, "", #[], none⟩ hS ?_ ?_; rotate_left; focus (intro w; go_simp; try with_reducible rfl))
  try simp only [pna, pnb, pnc, pnd, pne]
  (refine hP 4 ?_ ⟨some 86, .fieldAddr 54 (.tmp 10) 0, 0, "", #[], none⟩ hS ?_ ?_; rotate_left; focus (intro w; go_simp; try with_reducible rfl))
  try simp only [pna, pnb, pnc, pnd, pne]
  refine wpH_load 5 (.slice sa p.set.length sc) (oi := { dst := some 87, op := Op.load 23 (Operand.tmp 86), type := 23, pos := "theorems.go:94", after := #[{ on := 4, ground := Ground.data }], guard := none }) rfl (by kernel_rfl) (by kernel_rfl) (by kernel_rfl) (by rfl) hS (fun _ _ _ h => h) (fun w' hb2 => (by have c := (hb2.cell (p := ⟨kE, 0, none⟩) hlE).trans cS; go_simp; try rfl)) ?_
  try simp only [pna, pnb, pnc, pnd, pne]
  refine wpH_call 3 (oi := { dst := some 85, op := Op.call { callee := Callee.value (Operand.func 11), args := #[Operand.tmp 83, Operand.tmp 84], argTypes := #[23, 24] }, type := 3, pos := "theorems.go:94", after := #[{ on := 1, ground := Ground.data }, { on := 2, ground := Ground.data }], guard := none }) rfl (by kernel_rfl) (by rfl) (qo _ hS) ?_ ?_
  ·(go_simp; try rfl)
  rintro e w' ⟨rfl, hbx⟩
  refine ⟨_, rfl, hS.trans (hbx.mono hS.size), ?_⟩
  replace hS := hS.trans (hbx.mono hS.size)
  try simp only [pna, pnb, pnc, pnd, pne]
  refine wpH_call 6 (oi := { dst := some 88, op := Op.call { callee := Callee.value (Operand.func 12), args := #[Operand.tmp 87], argTypes := #[23] }, type := 3, pos := "theorems.go:94", after := #[{ on := 5, ground := Ground.data }, { on := 3, ground := Ground.chain }], guard := none }) rfl (by kernel_rfl) (by rfl) (qm _ hS) ?_ ?_
  ·(go_simp; try rfl)
  rintro e w' ⟨rfl, hbx⟩
  refine ⟨_, rfl, hS.trans (hbx.mono hS.size), ?_⟩
  replace hS := hS.trans (hbx.mono hS.size)
  try simp only [pna, pnb, pnc, pnd, pne]
  (refine hP 7 ?_ ⟨some 89, .binOp .leq 3 (.tmp 85) (.tmp 88) 3, 4, "", #[], none⟩ hS ?_ ?_; rotate_left; focus (intro w; go_simp; try with_reducible rfl))
  try simp only [pna, pnb, pnc, pnd, pne]
  (refine hP 8 ?_ ⟨some 90, .move (.tmp 89), 4, "", #[], none⟩ hS ?_ ?_; rotate_left; focus (intro w; go_simp; try with_reducible rfl))
  try simp only [pna, pnb, pnc, pnd, pne]
  (first | (refine hN 9 ⟨some 91, .fieldAddr 54 (.tmp 10) 0, 0, "", #[], some (8, false)⟩ hS ?_) | (refine hP 9 ?_ ⟨some 91, .fieldAddr 54 (.tmp 10) 0, 0, "", #[], some (8, false)⟩ hS ?_ ?_; rotate_left; focus (intro w; go_simp; try with_reducible rfl)))
  try simp only [pna, pnb, pnc, pnd, pne]
  refine wpH_load 10 (.slice sa p.set.length sc) (oi := { dst := some 92, op := Op.load 23 (Operand.tmp 91), type := 23, pos := "theorems.go:94", after := #[{ on := 9, ground := Ground.data }, { on := 8, ground := Ground.guard }], guard := some (8, false) }) rfl (by kernel_rfl) (by kernel_rfl) (by kernel_rfl) (by rfl) hS (fun _ _ _ h => h) (fun w' hb2 => (by have c := (hb2.cell (p := ⟨kE, 0, none⟩) hlE).trans cS; go_simp; try rfl)) ?_
  try simp only [pna, pnb, pnc, pnd, pne]
  (first | (refine hN 11 ⟨some 93, .move (.tmp 11), 24, "", #[], some (8, false)⟩ hS ?_) | (refine hP 11 ?_ ⟨some 93, .move (.tmp 11), 24, "", #[], some (8, false)⟩ hS ?_ ?_; rotate_left; focus (intro w; go_simp; try with_reducible rfl)))
  try simp only [pna, pnb, pnc, pnd, pne]
  (first | (refine hN 14 ⟨some 96, .fieldAddr 54 (.tmp 10) 0, 0, "", #[], some (8, false)⟩ hS ?_) | (refine hP 14 ?_ ⟨some 96, .fieldAddr 54 (.tmp 10) 0, 0, "", #[], some (8, false)⟩ hS ?_ ?_; rotate_left; focus (intro w; go_simp; try with_reducible rfl)))
  try simp only [pna, pnb, pnc, pnd, pne]
  refine wpH_load 15 (.slice sa p.set.length sc) (oi := { dst := some 97, op := Op.load 23 (Operand.tmp 96), type := 23, pos := "theorems.go:94", after := #[{ on := 14, ground := Ground.data }, { on := 8, ground := Ground.guard }], guard := some (8, false) }) rfl (by kernel_rfl) (by kernel_rfl) (by kernel_rfl) (by rfl) hS (fun _ _ _ h => h) (fun w' hb2 => (by have c := (hb2.cell (p := ⟨kE, 0, none⟩) hlE).trans cS; go_simp; try rfl)) ?_
  try simp only [pna, pnb, pnc, pnd, pne]
  refine wpH_call 12 (oi := { dst := some 94, op := Op.call { callee := Callee.value (Operand.func 11), args := #[Operand.tmp 92, Operand.tmp 93], argTypes := #[23, 24] }, type := 3, pos := "theorems.go:94", after := #[{ on := 10, ground := Ground.data }, { on := 11, ground := Ground.data }, { on := 8, ground := Ground.chain }, { on := 8, ground := Ground.guard }], guard := some (8, false) }) rfl (by kernel_rfl) (by rfl) (qo _ hS) ?_ ?_
  ·(go_simp; try rfl)
  rintro e w' ⟨rfl, hbx⟩
  refine ⟨_, rfl, hS.trans (hbx.mono hS.size), ?_⟩
  replace hS := hS.trans (hbx.mono hS.size)
  try simp only [pna, pnb, pnc, pnd, pne]
  (first | (refine hN 13 ⟨some 95, .binOp .mul 3 (.const (.int .i64 3)) (.tmp 94) 3, 3, "", #[], some (8, false)⟩ hS ?_) | (refine hP 13 ?_ ⟨some 95, .binOp .mul 3 (.const (.int .i64 3)) (.tmp 94) 3, 3, "", #[], some (8, false)⟩ hS ?_ ?_; rotate_left; focus (intro w; go_simp; try with_reducible rfl)))
  try simp only [pna, pnb, pnc, pnd, pne]
  refine wpH_call 16 (oi := { dst := some 98, op := Op.call { callee := Callee.value (Operand.func 13), args := #[Operand.tmp 97], argTypes := #[23] }, type := 3, pos := "theorems.go:94", after := #[{ on := 15, ground := Ground.data }, { on := 12, ground := Ground.chain }, { on := 8, ground := Ground.guard }], guard := some (8, false) }) rfl (by kernel_rfl) (by rfl) (qt _ hS) ?_ ?_
  ·(go_simp; try rfl)
  rintro e w' ⟨rfl, hbx⟩
  refine ⟨_, rfl, hS.trans (hbx.mono hS.size), ?_⟩
  replace hS := hS.trans (hbx.mono hS.size)
  try simp only [pna, pnb, pnc, pnd, pne]
  (first | (refine hN 17 ⟨some 99, .binOp .leq 3 (.tmp 95) (.tmp 98) 3, 4, "", #[], some (8, false)⟩ hS ?_) | (refine hP 17 ?_ ⟨some 99, .binOp .leq 3 (.tmp 95) (.tmp 98) 3, 4, "", #[], some (8, false)⟩ hS ?_ ?_; rotate_left; focus (intro w; go_simp; try with_reducible rfl)))
  try simp only [pna, pnb, pnc, pnd, pne]
  (refine hP 18 ?_ ⟨some 100, .pick (.tmp 90) (.const (.bool true)) (.tmp 99), 4, "", #[], none⟩ hS ?_ ?_; rotate_left; focus (intro w; go_simp; try with_reducible rfl))
  try simp only [pna, pnb, pnc, pnd, pne]
  refine wpAnyH_done (by kernel_rfl) ?_ _
  obtain ⟨w12, hw12⟩ := Below.name hS
  subst hw12
  have hb12 := hS
  have cA := (hb12.cell (p := ⟨kE, 23, none⟩) hlE).trans cA
  have cB := (hb12.cell (p := ⟨kE, 25, none⟩) hlE).trans cB
  have rA := rg_keep rA hlE hb12
  have rB := rg_keep rB hlE hb12
  have N0 := N0.keep hb12
  have HTB := Lib.hid (HTB.out.keep hb12)
  have HSK1 := Lib.hid (HSK1.out.keep hb12)
  have HSK2 := Lib.hid (HSK2.out.keep hb12)
  have HE12 := Lib.hid (HE11.out.keep hb12)
  have HY := Lib.hid (HY.out.keep hb12)
  have hlE : kE < w12.heap.size := by have := hb12.size; omega
  have hb012 := hb011.trans (hb12.mono hb011.size)
  have qk := fun s (h : s.length ≤ 1000000) W (hW : Below w12.heap.size w12 W) => cmark_any 6 s h W (HK.out.keep (hb012.trans (hW.mono hb012.size)))
  clear hS hb12 cS qo qm qt o1 o2 o3 HE11 hob htb lw1 lw2 HMS
  go_wp2_with fail
  refine (qk p.sum (by omega) _ (Below.refl _ _)).mono ?_
  rintro e w13 ⟨rfl, hb13⟩
  have cB := (hb13.cell (p := ⟨kE, 25, none⟩) hlE).trans cB
  generalize hmA : (markP 6 p.sum).1 = mA at *
  generalize (markP 6 p.sum).2 = cdA at *
  have HMA := Lib.hid hmA
  clear hmA
  go_wp2_with fail
  refine (qk (dgH qh) (by omega) _ hb13).mono ?_
  rintro e w14 ⟨rfl, hb⟩
  have hb14 := hb13.trans (hb.mono hb13.size)
  generalize hmB : (markP 6 (dgH qh)).1 = mB at *
  generalize (markP 6 (dgH qh)).2 = cdB at *
  have HMB := Lib.hid hmB
  have hmal : mA.length ≤ 32 := by rw [← HMA.out]; exact markP_len 6 p.sum
  have hmbl : mB.length ≤ 32 := by rw [← HMB.out]; exact markP_len 6 (dgH qh)
  have cA := (hb14.cell (p := ⟨kE, 23, none⟩) hlE).trans cA
  have cB := (hb.cell (p := ⟨kE, 25, none⟩) (Nat.lt_of_lt_of_le hlE hb13.size)).trans cB
  have rA := rg_keep rA hlE hb14
  have rB := rg_keep rB hlE hb14
  have N0 := N0.keep hb14
  have HTB := Lib.hid (HTB.out.keep hb14)
  have HSK1 := Lib.hid (HSK1.out.keep hb14)
  have HSK2 := Lib.hid (HSK2.out.keep hb14)
  have HE14 := Lib.hid (HE12.out.keep hb14)
  have HY := Lib.hid (HY.out.keep hb14)
  have hlE : kE < w14.heap.size := by have := hb14.size; omega
  have hb014 := hb012.trans (hb14.mono hb012.size)
  have HCA := Lib.hid cA
  have HCB := Lib.hid cB
  have HRA := Lib.hid rA
  have HRB := Lib.hid rB
  have HN0 := Lib.hid N0
  clear hmB hb13 hb hb14 qk HE12 hb012 cA cB rA rB N0
  go_wp2_with fail
  go_loopw [117] (fun s117 wr => ∃ k : Nat, s117 = .int .i64 ((k : Int)) ∧ k ≤ ns.length ∧ Hid (Below w14.heap.size w14 wr)) (fun s117 _ => ns.length - (intOf s117).toNat)
  case atStart => exact ⟨0, rfl, by omega, Lib.hid (Below.refl _ _)⟩
  case round =>
   obtain ⟨k, rfl, hkn, HBR⟩ := hrel
   obtain ⟨wr, hwr⟩ := Below.name HBR.out
   subst hwr
   have hbr := HBR.out
   by_cases hkl : k < ns.length
   ·have k1 : decide ((k : Int) < (ns.length : Int)) = true := by simp; omega
    have k2 : (k : Int) < (ns.length : Int) := by omega
    obtain ⟨gy, oy, ey, hgy, cy⟩ := (HY.out.keep hbr).at' k hkl
    subst ey
    have hin : ns.getD k [] ∈ ns := by rw [List.getD_eq_getElem?_getD, List.getElem?_eq_getElem hkl]; exact List.getElem_mem _
    obtain ⟨s1, s2, s3⟩ := HLW.out _ hin
    have hnl := hn6 _ hin
    generalize ns.getD k [] = nm at *
    have hbq := hb014.trans (hbr.mono hb014.size)
    have qa := osigned_any base pt L nm mA (by omega) (by omega) wr (HTB.out.keep hbr)
    have qb := fun W (hW : Below wr.heap.size wr W) => osigned_any base pt L nm mB (by omega) (by omega) W (HTB.out.keep (hbr.trans (hW.mono hbr.size)))
    have qi := fun W (hW : Below wr.heap.size wr W) => isbad_any va vs vb many B nm W (HB.out.keep (hbq.trans (hW.mono hbq.size)))
    rw [s1] at qa
    rw [s2] at qb
    go_wp2_with fail
    refine qa.mono ?_
    rintro e w15 ⟨rfl, hb15⟩
    go_wp2_with fail
    refine (qb _ hb15).mono ?_
    rintro e w16 ⟨rfl, hb⟩
    have hb16 := hb15.trans (hb.mono hb15.size)
    have N16 := (HN0.out.keep hbr).keep hb16
    go_wp2_with (first | (refine wpList_rowR row_wd rfl (.tmp 2) rfl rfl (vs := wdcs va vs many vb) rfl N16.range ?_) | fail)
    refine (qi _ hb16).mono ?_
    rintro e w17 ⟨rfl, hb⟩
    have hb17 := hb16.trans (hb.mono hb16.size)
    clear qa qb qi hb15 hb hb16 N16 s1 s2 cy hin
    cases hbd : badB B nm
    rotate_left
    ·go_wp2_with fail
     exact ⟨⟨k + 1, by go_num, by omega, Lib.hid (hbr.trans (hb17.mono hbr.size))⟩, by simp [intOf]; omega⟩
    have hun := s3 hbd
    have hb017 := hbr.trans (hb17.mono hbr.size)
    have hbw17 := hbq.trans (hb17.mono hbq.size)
    clear s3
    have HUN := Lib.hid hun
    clear hun
    obtain ⟨tA, htA⟩ : ∃ x, x = (encHR p.head).1 := ⟨_, rfl⟩
    obtain ⟨tB, htB⟩ : ∃ x, x = (encHR qh).1 := ⟨_, rfl⟩
    have HTA := Lib.hid htA
    have HTBB := Lib.hid htB
    clear htA htB
    have qe := fun (h : Hd) (sk : Value) W (hs : SS W sk h.skips) => hd_encode h.height h.epoch h.view h.last h.parent h.state h.receipts h.txs h.members h.next h.skips sk W hs
    have qeA := fun W (hW : Below w17.heap.size w17 W) => qe p.head (.slice ka p.head.skips.length kc) W (HSK1.out.keep (hb017.trans (hW.mono hb017.size)))
    have qeB := fun W (hW : Below w17.heap.size w17 W) => qe qh (.slice kb qh.skips.length kd) W (HSK2.out.keep (hb017.trans (hW.mono hb017.size)))
    have r17 := rg_keep HRA.out hlE hb017
    have r17B := rg_keep HRB.out hlE hb017
    have c23 := (hb017.cell (p := ⟨kE, 23, none⟩) hlE).trans HCA.out
    have c25 := (hb017.cell (p := ⟨kE, 25, none⟩) hlE).trans HCB.out
    have hlE17 : kE < w17.heap.size := by have := hb017.size; omega
    go_upto_region 24 with (first | (refine wpList_rowR row_head rfl (.tmp 137) rfl rfl (vs := hcs p.head (.slice ka p.head.skips.length kc)) rfl r17 ?_) | fail)
    refine (qeA _ (Below.refl _ _)).mono ?_
    rintro e w18 ⟨rfl, hb18⟩
    rw [show (⟨p.head.height, p.head.epoch, p.head.view, p.head.last, p.head.parent, p.head.state, p.head.receipts, p.head.txs, p.head.members, p.head.next, p.head.skips⟩ : Hd) = p.head from rfl, ← HTA.out]
    generalize (encHR p.head).2 = cE1 at *
    have r18B := rg_keep r17B hlE17 hb18
    go_wp2_with (first | (refine wpList_rowR row_head rfl (.tmp 143) rfl rfl (vs := hcs qh (.slice kb qh.skips.length kd)) rfl r18B ?_) | fail)
    refine (qeB _ hb18).mono ?_
    rintro e w19 ⟨rfl, hb⟩
    rw [show (⟨qh.height, qh.epoch, qh.view, qh.last, qh.parent, qh.state, qh.receipts, qh.txs, qh.members, qh.next, qh.skips⟩ : Hd) = qh from rfl, ← HTBB.out]
    generalize (encHR qh).2 = cE2 at *
    have hb19 := hb18.trans (hb.mono hb18.size)
    have c23 := (hb19.cell (p := ⟨kE, 23, none⟩) hlE17).trans c23
    have c25 := (hb19.cell (p := ⟨kE, 25, none⟩) hlE17).trans c25
    have hlE19 : kE < w19.heap.size := by have := hb19.size; omega
    have HE19 := Lib.hid ((HE14.out.keep hb017).keep hb19)
    have hbw19 := hbw17.trans (hb19.mono hbw17.size)
    clear qeA qeB r17 r17B r18B hb18 hb hb19 hbw17 hb017 hb17 HSK1 HSK2 hlE17
    go_upto_region 25 with fail
    go_cut [23, 24] (fun s23 s24 wx => Hid (TwoS wx w19.heap.size s23 s24 [tA, tB] [p.sum, dgH qh]) ∧ Hid (Below w19.heap.size w19 wx))
    case first =>
     refine wpH_start (by kernel_rfl) (fun hS => ?_)
     (refine hP 0 ?_ ⟨some 148, .move (.tmp 19), 9, "", #[], none⟩ hS ?_ ?_; rotate_left; focus (intro w; go_simp; try with_reducible rfl))
     try simp only [pna, pnb, pnc, pnd, pne]
     (refine hP 1 ?_ ⟨some 149, .move (.tmp 21), 9, "", #[], none⟩ hS ?_ ?_; rotate_left; focus (intro w; go_simp; try with_reducible rfl))
     try simp only [pna, pnb, pnc, pnd, pne]
     (refine hP 3 ?_ ⟨some 151, .fieldAddr 54 (.tmp 10) 3, 0, "", #[], none⟩ hS ?_ ?_; rotate_left; focus (intro w; go_simp; try with_reducible rfl))
     try simp only [pna, pnb, pnc, pnd, pne]
     (refine hP 4 ?_ ⟨some 152, .fieldAddr 37 (.tmp 151) 0, 0, "", #[], none⟩ hS ?_ ?_; rotate_left; focus (intro w; go_simp; try with_reducible rfl))
     try simp only [pna, pnb, pnc, pnd, pne]
     refine wpH_load 5 (.string ⟨List.toArray p.sum⟩) (oi := { dst := some 153, op := Op.load 9 (Operand.tmp 152), type := 9, pos := "theorems.go:108", after := #[{ on := 4, ground := Ground.data }, { on := 10, ground := Ground.gcOnly Departure.lateStores }], guard := none }) rfl (by kernel_rfl) (by kernel_rfl) (by kernel_rfl) (by rfl) hS (fun _ _ _ h => h) (fun w' hb2 => (by have c := (hb2.cell (p := ⟨kE, 23, none⟩) hlE19).trans c23; go_simp; try rfl)) ?_
     try simp only [pna, pnb, pnc, pnd, pne]
     (refine hP 6 ?_ ⟨some 154, .fieldAddr 54 (.tmp 10) 4, 0, "", #[], none⟩ hS ?_ ?_; rotate_left; focus (intro w; go_simp; try with_reducible rfl))
     try simp only [pna, pnb, pnc, pnd, pne]
     (refine hP 7 ?_ ⟨some 155, .fieldAddr 37 (.tmp 154) 0, 0, "", #[], none⟩ hS ?_ ?_; rotate_left; focus (intro w; go_simp; try with_reducible rfl))
     try simp only [pna, pnb, pnc, pnd, pne]
     refine wpH_load 8 (.string ⟨List.toArray (dgH qh)⟩) (oi := { dst := some 156, op := Op.load 9 (Operand.tmp 155), type := 9, pos := "theorems.go:108", after := #[{ on := 7, ground := Ground.data }, { on := 10, ground := Ground.gcOnly Departure.lateStores }], guard := none }) rfl (by kernel_rfl) (by kernel_rfl) (by kernel_rfl) (by rfl) hS (fun _ _ _ h => h) (fun w' hb2 => (by have c := (hb2.cell (p := ⟨kE, 25, none⟩) hlE19).trans c25; go_simp; try rfl)) ?_
     try simp only [pna, pnb, pnc, pnd, pne]
     refine wpAnyH_all (rs := [2, 9]) (by kernel_rfl) (by simp) (fun jj hjj => ?_)
     simp only [List.mem_cons, List.not_mem_nil, or_false] at hjj
     rcases hjj with rfl | rfl
     refine wpO_op (oi := { dst := some 150, op := Op.buildSlice 24 2 #[(0, Operand.tmp 148), (1, Operand.tmp 149)], type := 24, pos := "theorems.go:108", after := #[{ on := 0, ground := Ground.data }, { on := 1, ground := Ground.data }], guard := none }) rfl (by rfl) ?_
     refine wp_newK 9 #[.string ⟨List.toArray tA⟩, .string ⟨List.toArray tB⟩] (fun k => .slice (some ⟨k, 0, none⟩) 2 2) (fun w => by go_simp; try rfl) ?_
     intro k150 w' hk150 hh150 hl150 hb150
     have hz150 := hS.size
     refine ⟨hS.trans (hb150.mono hS.size), ?_⟩
     replace hS := hS.trans (hb150.mono hS.size)
     try have hh157 := (hb150.block _ hl157).trans hh157
     try simp only [pna, pnb, pnc, pnd, pne]
     (refine hP 10 ?_ ⟨some 23, .assign (.tmp 150), 24, "", #[], none⟩ hS ?_ ?_; rotate_left; focus (intro w; go_simp; try with_reducible rfl))
     try simp only [pna, pnb, pnc, pnd, pne]
     refine wpH_op 9 (oi := { dst := some 157, op := Op.buildSlice 24 2 #[(0, Operand.tmp 153), (1, Operand.tmp 156)], type := 24, pos := "theorems.go:108", after := #[{ on := 5, ground := Ground.data }, { on := 8, ground := Ground.data }, { on := 10, ground := Ground.gcOnly Departure.lateStores }], guard := none }) rfl (by kernel_rfl) (by rfl) ?_
     refine wp_newK 9 #[.string ⟨List.toArray p.sum⟩, .string ⟨List.toArray (dgH qh)⟩] (fun k => .slice (some ⟨k, 0, none⟩) 2 2) (fun w => by go_simp; try rfl) ?_
     intro k157 w' hk157 hh157 hl157 hb157
     have hz157 := hS.size
     refine ⟨hS.trans (hb157.mono hS.size), ?_⟩
     replace hS := hS.trans (hb157.mono hS.size)
     try have hh150 := (hb157.block _ hl150).trans hh150
     try simp only [pna, pnb, pnc, pnd, pne]
     (refine hP 11 ?_ ⟨some 24, .assign (.tmp 157), 24, "", #[], none⟩ hS ?_ ?_; rotate_left; focus (intro w; go_simp; try with_reducible rfl))
     try simp only [pna, pnb, pnc, pnd, pne]
     refine wpAnyH_done (by kernel_rfl) ?_ _
     go_wp2_with fail
     go_meet
     exact ⟨Lib.hid ⟨hS.size, SRow.two (by omega) hh150, SRow.two (by omega) hh157, fun k hk hk2 => (by simp [Value.ownBlock] at hk hk2; omega)⟩, Lib.hid hS⟩
     refine wpO_op (oi := { dst := some 157, op := Op.buildSlice 24 2 #[(0, Operand.tmp 153), (1, Operand.tmp 156)], type := 24, pos := "theorems.go:108", after := #[{ on := 5, ground := Ground.data }, { on := 8, ground := Ground.data }, { on := 10, ground := Ground.gcOnly Departure.lateStores }], guard := none }) rfl (by rfl) ?_
     refine wp_newK 9 #[.string ⟨List.toArray p.sum⟩, .string ⟨List.toArray (dgH qh)⟩] (fun k => .slice (some ⟨k, 0, none⟩) 2 2) (fun w => by go_simp; try rfl) ?_
     intro k157 w' hk157 hh157 hl157 hb157
     have hz157 := hS.size
     refine ⟨hS.trans (hb157.mono hS.size), ?_⟩
     replace hS := hS.trans (hb157.mono hS.size)
     try have hh150 := (hb157.block _ hl150).trans hh150
     try simp only [pna, pnb, pnc, pnd, pne]
     refine wpH_op 2 (oi := { dst := some 150, op := Op.buildSlice 24 2 #[(0, Operand.tmp 148), (1, Operand.tmp 149)], type := 24, pos := "theorems.go:108", after := #[{ on := 0, ground := Ground.data }, { on := 1, ground := Ground.data }], guard := none }) rfl (by kernel_rfl) (by rfl) ?_
     refine wp_newK 9 #[.string ⟨List.toArray tA⟩, .string ⟨List.toArray tB⟩] (fun k => .slice (some ⟨k, 0, none⟩) 2 2) (fun w => by go_simp; try rfl) ?_
     intro k150 w' hk150 hh150 hl150 hb150
     have hz150 := hS.size
     refine ⟨hS.trans (hb150.mono hS.size), ?_⟩
     replace hS := hS.trans (hb150.mono hS.size)
     try have hh157 := (hb150.block _ hl157).trans hh157
     try simp only [pna, pnb, pnc, pnd, pne]
     (refine hP 10 ?_ ⟨some 23, .assign (.tmp 150), 24, "", #[], none⟩ hS ?_ ?_; rotate_left; focus (intro w; go_simp; try with_reducible rfl))
     try simp only [pna, pnb, pnc, pnd, pne]
     (refine hP 11 ?_ ⟨some 24, .assign (.tmp 157), 24, "", #[], none⟩ hS ?_ ?_; rotate_left; focus (intro w; go_simp; try with_reducible rfl))
     try simp only [pna, pnb, pnc, pnd, pne]
     refine wpAnyH_done (by kernel_rfl) ?_ _
     go_wp2_with fail
     go_meet
     exact ⟨Lib.hid ⟨hS.size, SRow.two (by omega) hh150, SRow.two (by omega) hh157, fun k hk hk2 => (by simp [Value.ownBlock] at hk hk2; omega)⟩, Lib.hid hS⟩
    case rest =>
     obtain ⟨HT2, HBB⟩ := hcut
     obtain ⟨w20, hw20⟩ : ∃ w', w' = wc := ⟨_, rfl⟩
     subst hw20
     clear c23 c25
     have hE6' := hEl6
     go_upto_region 26 with fail
     go_wp2_with fail
     go_loopw [160, 23, 24] (fun s160 s23 s24 wq => ∃ (m : Nat), s160 = .int .i64 ((m : Int)) ∧ m ≤ E.length ∧ Hid (TwoS wq w19.heap.size s23 s24 (tA :: tB :: (E.take m).map fun y => (encHR y.head).1) (p.sum :: dgH qh :: (E.take m).map (·.sum))) ∧ Hid (Below w19.heap.size w19 wq)) (fun s160 _ _ _ => E.length - (intOf s160).toNat)
     case atStart => exact ⟨0, rfl, by omega, HT2, HBB⟩
     case round =>
      clear HT2 HBB
      obtain ⟨m, rfl, hmE, HT2, HBB⟩ := hrel
      obtain ⟨wq, hwq⟩ := Below.name HBB.out
      subst hwq
      by_cases hml : m < E.length
      ·have x1 : decide ((m : Int) < (E.length : Int)) = true := by simp; omega
       have x2 : (m : Int) < (E.length : Int) := by omega
       obtain ⟨x, hx⟩ : ∃ x, E[m]? = some x := ⟨E[m], List.getElem?_eq_getElem hml⟩
       obtain ⟨g3, o3, sk3, it3, st3, nx3, e3, hg3, hr3, hat3⟩ := (HE19.out.keep HBB.out).at m x hx
       injection e3 with e3
       injection e3 with e3 e4 _
       subst e3 e4
       have hxs : SS wq sk3 x.head.skips := hat3.1
       obtain ⟨y1, d1, f1⟩ := hat3.1.form
       obtain ⟨y2, d2, f2⟩ := hat3.2.1.form
       obtain ⟨y3, d3, f3⟩ := hat3.2.2.1.form
       obtain ⟨y4, d4, f4⟩ := hat3.2.2.2.form
       simp only at f1 f2 f3 f4
       subst f1 f2 f3 f4
       have HTK : Hid (E.take (m + 1) = E.take m ++ [x]) := Lib.hid (by rw [ent_take E m hml, List.getD_eq_getElem?_getD, hx]; rfl)
       have HXS := Lib.hid hxs
       have HT20 := HT2
       clear hat3 hxs hx
       go_upto_region 29 with (first
        | (refine wpList_rowR row_ent rfl (.tmp 162) rfl rfl (vs := ecs x (.slice y1 x.head.skips.length d1) (.slice y2 x.items.length d2) (.slice y3 x.set.length d3) (.slice y4 x.next.length d4)) rfl hr3 ?_)
        | (refine wpList_rowStoreT row_ent rfl rfl (.tmp 26) (.tmp 163) rfl rfl (vs := ecs x (.slice y1 x.head.skips.length d1) (.slice y2 x.items.length d2) (.slice y3 x.set.length d3) (.slice y4 x.next.length d4)) rfl rfl (ecs_one _ _ _ _ _ _ _ _ _ _ _ _ _) (us := ecs entZ (.slice none 0 0) (.slice none 0 0) (.slice none 0 0) (.slice none 0 0)) rfl (Blk.new' rfl) (Typ.new' rfl) ?_; intro w21 N26 T26 m21)
        | fail)
       have m21' : Below wq.heap.size wq w21 := Below.mod (Below.allocS (Below.refl _ _) _) m21 (by simp) (by simp)
       have T21 := HT2.out.keep m21'
       have B21 := HBB.out.trans (m21'.mono HT2.out.lb)
       have nn1 : wq.heap.size ∉ (u23.ownBlock.toList ++ u24.ownBlock.toList) := fun hx => by
        rw [List.mem_append, Option.mem_toList, Option.mem_toList] at hx
        rcases hx with hx | hx
        ·exact Nat.lt_irrefl _ (HT2.out.r1.own_lt2 hx)
        ·exact Nat.lt_irrefl _ (HT2.out.r2.own_lt2 hx)
       have eh := ent_head N26
       have qx := qe x.head (.slice y1 x.head.skips.length d1) w21 (HXS.out.keep m21')
       clear T26 m21 HT20 hr3
       go_wp2_with (first | (refine wpList_rowR row_head rfl (.tmp 165) rfl rfl (vs := hcs x.head (.slice y1 x.head.skips.length d1)) rfl eh ?_) | fail)
       refine qx.mono ?_
       rintro e w22 ⟨rfl, hb22⟩
       rw [show (⟨x.head.height, x.head.epoch, x.head.view, x.head.last, x.head.parent, x.head.state, x.head.receipts, x.head.txs, x.head.members, x.head.next, x.head.skips⟩ : Hd) = x.head from rfl]
       obtain ⟨tE, htE⟩ : ∃ z, z = (encHR x.head).1 := ⟨_, rfl⟩
       rw [← htE]
       have HTE := Lib.hid htE
       clear htE
       generalize (encHR x.head).2 = cE3 at *
       have T22 := Lib.hid (T21.keep hb22)
       have BB22 := Lib.hid (B21.trans (hb22.mono T21.lb))
       have N26 := N26.keep hb22
       clear qx eh T21 B21 hb22 m21'
       generalize wq.heap.size = k26 at *
       generalize hHL : (tA :: tB :: (E.take m).map fun y => (encHR y.head).1) = hl0 at *
       generalize hSL : (p.sum :: dgH qh :: (E.take m).map (·.sum)) = sl0 at *
       have HHL2 := Lib.hid hHL
       have HSL2 := Lib.hid hSL
       have hll : hl0.length ≤ 1000000 ∧ sl0.length ≤ 1000000 := by rw [← hHL, ← hSL]; simp; omega
       clear hHL hSL
       go_upto_region 30 with fail
       refine wpH_startM (u23.ownBlock.toList ++ u24.ownBlock.toList) (by kernel_rfl) (fun hS => ?_)
       have T := T22.out.keep ((Below.refl _ _).drew)
       have BB := BB22.out.trans ((Below.refl _ _).drew)
       (refine hP 0 ?_ ⟨some 170, .move (.tmp 23), 24, "", #[], none⟩ hS ?_ ?_; rotate_left; focus (intro w; go_simp; try with_reducible rfl))
       try simp only [pna, pnb, pnc, pnd, pne]
       (refine hP 1 ?_ ⟨some 171, .move (.tmp 27), 9, "", #[], none⟩ hS ?_ ?_; rotate_left; focus (intro w; go_simp; try with_reducible rfl))
       try simp only [pna, pnb, pnc, pnd, pne]
       (refine hP 4 ?_ ⟨some 174, .move (.tmp 24), 24, "", #[], none⟩ hS ?_ ?_; rotate_left; focus (intro w; go_simp; try with_reducible rfl))
       try simp only [pna, pnb, pnc, pnd, pne]
       (refine hP 5 ?_ ⟨some 175, .fieldAddr 52 (.tmp 26) 1, 0, "", #[], none⟩ hS ?_ ?_; rotate_left; focus (intro w; go_simp; try with_reducible rfl))
       try simp only [pna, pnb, pnc, pnd, pne]
       refine wpH_load 6 (.string ⟨List.toArray x.sum⟩) (oi := { dst := some 176, op := Op.load 9 (Operand.tmp 175), type := 9, pos := "theorems.go:111", after := #[{ on := 5, ground := Ground.data }], guard := none }) rfl (by kernel_rfl) (by kernel_rfl) (by kernel_rfl) (by rfl) hS (fun _ _ _ h => h) (fun w' hb2 => (by have c := (N26.mod hb2 nn1).cell 11; simp only [ecs, List.getElem?_toArray, List.getElem?_cons_zero, List.getElem?_cons_succ] at c; go_simp; try rfl)) ?_
       try simp only [pna, pnb, pnc, pnd, pne]
       refine wpAnyH_all (rs := [2, 7]) (by kernel_rfl) (by simp) (fun jj hjj => ?_)
       simp only [List.mem_cons, List.not_mem_nil, or_false] at hjj
       rcases hjj with rfl | rfl
       refine wpO_op (oi := { dst := some 172, op := Op.buildSlice 24 1 #[(0, Operand.tmp 171)], type := 24, pos := "theorems.go:111", after := #[{ on := 1, ground := Ground.data }], guard := none }) rfl (by rfl) ?_
       refine wp_newK 9 #[.string ⟨List.toArray tE⟩] (fun k => .slice (some ⟨k, 0, none⟩) 1 1) (fun w => by go_simp; try rfl) ?_
       intro k172 w' hk172 hh172 hl172 hb172
       refine ⟨hS.trans (Mod.of_below hb172), ?_⟩
       replace hS := hS.trans (Mod.of_below hb172)
       have M172 := T.made hk172 (Blk.of_heap hh172 hl172)
       have BB := BB.trans (hb172.mono T.lb)
       have T := T.keep hb172
       try have M177 := M177.keep hb172
       try simp only [pna, pnb, pnc, pnd, pne]
       refine wpAnyH_all (rs := [3, 7]) (by kernel_rfl) (by simp) (fun jj hjj => ?_)
       simp only [List.mem_cons, List.not_mem_nil, or_false] at hjj
       rcases hjj with rfl | rfl
       refine wpO_op (oi := { dst := some 173, op := Op.call { callee := Callee.builtin Builtin.append, args := #[Operand.tmp 170, Operand.tmp 172], argTypes := #[24, 24] }, type := 24, pos := "theorems.go:111", after := #[{ on := 0, ground := Ground.data }, { on := 2, ground := Ground.data }], guard := none }) rfl (by rfl) ?_
       refine wp_appS2 (.tmp 170) (.tmp 172) rfl w19.heap.size u23 hl0 rfl T.r1 k172 tE rfl M172.1 (by omega) T.lb ?_
       intro u1 w' hr hg ho
       have hgm := (grown_modO hg).sub (m := (u23.ownBlock.toList ++ u24.ownBlock.toList)) (fun x hx => .inl (List.mem_append_left _ hx))
       refine ⟨hS.trans hgm, ?_⟩
       replace hS := hS.trans hgm
       obtain ⟨T1, hbT⟩ := T.app1 hr hg ho
       have BB := BB.trans hbT
       try have M177 := M177.app1 hg ho
       have T := T1
       try simp only [pna, pnb, pnc, pnd, pne]
       refine wpH_op 7 (oi := { dst := some 177, op := Op.buildSlice 24 1 #[(0, Operand.tmp 176)], type := 24, pos := "theorems.go:111", after := #[{ on := 6, ground := Ground.data }], guard := none }) rfl (by kernel_rfl) (by rfl) ?_
       refine wp_newK 9 #[.string ⟨List.toArray x.sum⟩] (fun k => .slice (some ⟨k, 0, none⟩) 1 1) (fun w => by go_simp; try rfl) ?_
       intro k177 w' hk177 hh177 hl177 hb177
       refine ⟨hS.trans (Mod.of_below hb177), ?_⟩
       replace hS := hS.trans (Mod.of_below hb177)
       have M177 := T.made hk177 (Blk.of_heap hh177 hl177)
       have BB := BB.trans (hb177.mono T.lb)
       have T := T.keep hb177
       try have M172 := M172.keep hb177
       try simp only [pna, pnb, pnc, pnd, pne]
       refine wpH_op 8 (oi := { dst := some 178, op := Op.call { callee := Callee.builtin Builtin.append, args := #[Operand.tmp 174, Operand.tmp 177], argTypes := #[24, 24] }, type := 24, pos := "theorems.go:111", after := #[{ on := 4, ground := Ground.data }, { on := 7, ground := Ground.data }, { on := 3, ground := Ground.chain }], guard := none }) rfl (by kernel_rfl) (by rfl) ?_
       refine wp_appS2 (.tmp 174) (.tmp 177) rfl w19.heap.size u24 sl0 rfl T.r2 k177 x.sum rfl M177.1 (by omega) T.lb ?_
       intro u2 w' hr hg ho
       have hgm := (grown_modO hg).sub (m := (u23.ownBlock.toList ++ u24.ownBlock.toList)) (fun x hx => .inl (List.mem_append_right _ hx))
       refine ⟨hS.trans hgm, ?_⟩
       replace hS := hS.trans hgm
       obtain ⟨T2, hbT⟩ := T.swap.app1 hr hg ho
       have BB := BB.trans hbT
       have T := T2.swap
       try simp only [pna, pnb, pnc, pnd, pne]
       (refine hP 9 ?_ ⟨some 23, .assign (.tmp 173), 24, "", #[], none⟩ hS ?_ ?_; rotate_left; focus (intro w; go_simp; try with_reducible rfl))
       try simp only [pna, pnb, pnc, pnd, pne]
       (refine hP 10 ?_ ⟨some 24, .assign (.tmp 178), 24, "", #[], none⟩ hS ?_ ?_; rotate_left; focus (intro w; go_simp; try with_reducible rfl))
       try simp only [pna, pnb, pnc, pnd, pne]
       refine wpAnyH_done (by kernel_rfl) ?_ _
       clear hS
       go_wp2_with fail
       have HT3 := T
       have HB3 := BB
       exact ⟨⟨m + 1, by go_num, by omega, Lib.hid (by have := HT3; rw [← HHL2.out, ← HSL2.out, HTE.out] at this; rw [HTK.out]; simpa using this), Lib.hid HB3⟩, by simp [intOf]; omega⟩
       refine wpO_op (oi := { dst := some 177, op := Op.buildSlice 24 1 #[(0, Operand.tmp 176)], type := 24, pos := "theorems.go:111", after := #[{ on := 6, ground := Ground.data }], guard := none }) rfl (by rfl) ?_
       refine wp_newK 9 #[.string ⟨List.toArray x.sum⟩] (fun k => .slice (some ⟨k, 0, none⟩) 1 1) (fun w => by go_simp; try rfl) ?_
       intro k177 w' hk177 hh177 hl177 hb177
       refine ⟨hS.trans (Mod.of_below hb177), ?_⟩
       replace hS := hS.trans (Mod.of_below hb177)
       have M177 := T.made hk177 (Blk.of_heap hh177 hl177)
       have BB := BB.trans (hb177.mono T.lb)
       have T := T.keep hb177
       try have M172 := M172.keep hb177
       try simp only [pna, pnb, pnc, pnd, pne]
       refine wpH_op 3 (oi := { dst := some 173, op := Op.call { callee := Callee.builtin Builtin.append, args := #[Operand.tmp 170, Operand.tmp 172], argTypes := #[24, 24] }, type := 24, pos := "theorems.go:111", after := #[{ on := 0, ground := Ground.data }, { on := 2, ground := Ground.data }], guard := none }) rfl (by kernel_rfl) (by rfl) ?_
       refine wp_appS2 (.tmp 170) (.tmp 172) rfl w19.heap.size u23 hl0 rfl T.r1 k172 tE rfl M172.1 (by omega) T.lb ?_
       intro u1 w' hr hg ho
       have hgm := (grown_modO hg).sub (m := (u23.ownBlock.toList ++ u24.ownBlock.toList)) (fun x hx => .inl (List.mem_append_left _ hx))
       refine ⟨hS.trans hgm, ?_⟩
       replace hS := hS.trans hgm
       obtain ⟨T1, hbT⟩ := T.app1 hr hg ho
       have BB := BB.trans hbT
       try have M177 := M177.app1 hg ho
       have T := T1
       try simp only [pna, pnb, pnc, pnd, pne]
       refine wpH_op 8 (oi := { dst := some 178, op := Op.call { callee := Callee.builtin Builtin.append, args := #[Operand.tmp 174, Operand.tmp 177], argTypes := #[24, 24] }, type := 24, pos := "theorems.go:111", after := #[{ on := 4, ground := Ground.data }, { on := 7, ground := Ground.data }, { on := 3, ground := Ground.chain }], guard := none }) rfl (by kernel_rfl) (by rfl) ?_
       refine wp_appS2 (.tmp 174) (.tmp 177) rfl w19.heap.size u24 sl0 rfl T.r2 k177 x.sum rfl M177.1 (by omega) T.lb ?_
       intro u2 w' hr hg ho
       have hgm := (grown_modO hg).sub (m := (u23.ownBlock.toList ++ u24.ownBlock.toList)) (fun x hx => .inl (List.mem_append_right _ hx))
       refine ⟨hS.trans hgm, ?_⟩
       replace hS := hS.trans hgm
       obtain ⟨T2, hbT⟩ := T.swap.app1 hr hg ho
       have BB := BB.trans hbT
       have T := T2.swap
       try simp only [pna, pnb, pnc, pnd, pne]
       (refine hP 9 ?_ ⟨some 23, .assign (.tmp 173), 24, "", #[], none⟩ hS ?_ ?_; rotate_left; focus (intro w; go_simp; try with_reducible rfl))
       try simp only [pna, pnb, pnc, pnd, pne]
       (refine hP 10 ?_ ⟨some 24, .assign (.tmp 178), 24, "", #[], none⟩ hS ?_ ?_; rotate_left; focus (intro w; go_simp; try with_reducible rfl))
       try simp only [pna, pnb, pnc, pnd, pne]
       refine wpAnyH_done (by kernel_rfl) ?_ _
       clear hS
       go_wp2_with fail
       have HT3 := T
       have HB3 := BB
       exact ⟨⟨m + 1, by go_num, by omega, Lib.hid (by have := HT3; rw [← HHL2.out, ← HSL2.out, HTE.out] at this; rw [HTK.out]; simpa using this), Lib.hid HB3⟩, by simp [intOf]; omega⟩
       refine wpO_op (oi := { dst := some 177, op := Op.buildSlice 24 1 #[(0, Operand.tmp 176)], type := 24, pos := "theorems.go:111", after := #[{ on := 6, ground := Ground.data }], guard := none }) rfl (by rfl) ?_
       refine wp_newK 9 #[.string ⟨List.toArray x.sum⟩] (fun k => .slice (some ⟨k, 0, none⟩) 1 1) (fun w => by go_simp; try rfl) ?_
       intro k177 w' hk177 hh177 hl177 hb177
       refine ⟨hS.trans (Mod.of_below hb177), ?_⟩
       replace hS := hS.trans (Mod.of_below hb177)
       have M177 := T.made hk177 (Blk.of_heap hh177 hl177)
       have BB := BB.trans (hb177.mono T.lb)
       have T := T.keep hb177
       try have M172 := M172.keep hb177
       try simp only [pna, pnb, pnc, pnd, pne]
       refine wpH_op 2 (oi := { dst := some 172, op := Op.buildSlice 24 1 #[(0, Operand.tmp 171)], type := 24, pos := "theorems.go:111", after := #[{ on := 1, ground := Ground.data }], guard := none }) rfl (by kernel_rfl) (by rfl) ?_
       refine wp_newK 9 #[.string ⟨List.toArray tE⟩] (fun k => .slice (some ⟨k, 0, none⟩) 1 1) (fun w => by go_simp; try rfl) ?_
       intro k172 w' hk172 hh172 hl172 hb172
       refine ⟨hS.trans (Mod.of_below hb172), ?_⟩
       replace hS := hS.trans (Mod.of_below hb172)
       have M172 := T.made hk172 (Blk.of_heap hh172 hl172)
       have BB := BB.trans (hb172.mono T.lb)
       have T := T.keep hb172
       try have M177 := M177.keep hb172
       try simp only [pna, pnb, pnc, pnd, pne]
       refine wpH_op 3 (oi := { dst := some 173, op := Op.call { callee := Callee.builtin Builtin.append, args := #[Operand.tmp 170, Operand.tmp 172], argTypes := #[24, 24] }, type := 24, pos := "theorems.go:111", after := #[{ on := 0, ground := Ground.data }, { on := 2, ground := Ground.data }], guard := none }) rfl (by kernel_rfl) (by rfl) ?_
       refine wp_appS2 (.tmp 170) (.tmp 172) rfl w19.heap.size u23 hl0 rfl T.r1 k172 tE rfl M172.1 (by omega) T.lb ?_
       intro u1 w' hr hg ho
       have hgm := (grown_modO hg).sub (m := (u23.ownBlock.toList ++ u24.ownBlock.toList)) (fun x hx => .inl (List.mem_append_left _ hx))
       refine ⟨hS.trans hgm, ?_⟩
       replace hS := hS.trans hgm
       obtain ⟨T1, hbT⟩ := T.app1 hr hg ho
       have BB := BB.trans hbT
       try have M177 := M177.app1 hg ho
       have T := T1
       try simp only [pna, pnb, pnc, pnd, pne]
       refine wpH_op 8 (oi := { dst := some 178, op := Op.call { callee := Callee.builtin Builtin.append, args := #[Operand.tmp 174, Operand.tmp 177], argTypes := #[24, 24] }, type := 24, pos := "theorems.go:111", after := #[{ on := 4, ground := Ground.data }, { on := 7, ground := Ground.data }, { on := 3, ground := Ground.chain }], guard := none }) rfl (by kernel_rfl) (by rfl) ?_
       refine wp_appS2 (.tmp 174) (.tmp 177) rfl w19.heap.size u24 sl0 rfl T.r2 k177 x.sum rfl M177.1 (by omega) T.lb ?_
       intro u2 w' hr hg ho
       have hgm := (grown_modO hg).sub (m := (u23.ownBlock.toList ++ u24.ownBlock.toList)) (fun x hx => .inl (List.mem_append_right _ hx))
       refine ⟨hS.trans hgm, ?_⟩
       replace hS := hS.trans hgm
       obtain ⟨T2, hbT⟩ := T.swap.app1 hr hg ho
       have BB := BB.trans hbT
       have T := T2.swap
       try simp only [pna, pnb, pnc, pnd, pne]
       (refine hP 9 ?_ ⟨some 23, .assign (.tmp 173), 24, "", #[], none⟩ hS ?_ ?_; rotate_left; focus (intro w; go_simp; try with_reducible rfl))
       try simp only [pna, pnb, pnc, pnd, pne]
       (refine hP 10 ?_ ⟨some 24, .assign (.tmp 178), 24, "", #[], none⟩ hS ?_ ?_; rotate_left; focus (intro w; go_simp; try with_reducible rfl))
       try simp only [pna, pnb, pnc, pnd, pne]
       refine wpAnyH_done (by kernel_rfl) ?_ _
       clear hS
       go_wp2_with fail
       have HT3 := T
       have HB3 := BB
       exact ⟨⟨m + 1, by go_num, by omega, Lib.hid (by have := HT3; rw [← HHL2.out, ← HSL2.out, HTE.out] at this; rw [HTK.out]; simpa using this), Lib.hid HB3⟩, by simp [intOf]; omega⟩
      ·obtain rfl : m = E.length := by omega
       have x1 : decide ((E.length : Int) < (E.length : Int)) = false := by simp
       have x2 : decide (E.length < E.length) = false := by simp
       rw [List.take_length] at HT2
       have hs1 : ∀ i, i < (sumsU p qh E).length → ((sumsU p qh E).getD i []).length ≤ 1000000 := fun i hi => by
        have hin : (sumsU p qh E).getD i [] ∈ sumsU p qh E := by rw [List.getD_eq_getElem?_getD, List.getElem?_eq_getElem hi]; exact List.getElem_mem _
        have key : ∀ z ∈ sumsU p qh E, z.length ≤ 1000000 := fun z hz => by
         unfold sumsU at hz
         rcases List.mem_cons.1 hz with e | hz
         ·rw [e]; omega
         rcases List.mem_cons.1 hz with e | hz
         ·rw [e]; omega
         obtain ⟨y, hy, rfl⟩ := List.mem_map.1 hz
         obtain ⟨n, hn, rfl⟩ := List.getElem_of_mem hy
         have hsm := (HLI.out.all n hn).sm
         rw [List.getD_eq_getElem?_getD, List.getElem?_eq_getElem hn] at hsm
         simp only [Option.getD_some] at hsm
         rw [hsm]
         have := dgH_le (E[n].head)
         omega
        exact key _ hin
       have hs2 : ∀ i, i < (headsU p qh E).length → ((headsU p qh E).getD i []).length ≤ 1000000 := fun i hi => by
        have hin : (headsU p qh E).getD i [] ∈ headsU p qh E := by rw [List.getD_eq_getElem?_getD, List.getElem?_eq_getElem hi]; exact List.getElem_mem _
        have key : ∀ z ∈ headsU p qh E, z.length ≤ 1000000 := fun z hz => by
         unfold headsU at hz
         rcases List.mem_cons.1 hz with e | hz
         ·rw [e]; have := encHR_le p.head; omega
         rcases List.mem_cons.1 hz with e | hz
         ·rw [e]; have := encHR_le qh; omega
         obtain ⟨y, hy, rfl⟩ := List.mem_map.1 hz
         have := encHR_le y.head
         omega
        exact key _ hin
       have hT2 : TwoS wq w19.heap.size u23 u24 (headsU p qh E) (sumsU p qh E) := by have := HT2.out; rw [HTA.out, HTBB.out] at this; exact this
       have hlh : (headsU p qh E).length = E.length + 2 := by simp [headsU]
       have hls : (sumsU p qh E).length = E.length + 2 := by simp [sumsU]
       have qU := unlike4_any 6 (by decide) u24 (sumsU p qh E) (by omega) hs1 wq hT2.r2.ss
       have qV := fun W (hW : Below wq.heap.size wq W) => unlike4_any 2 (by decide) u23 (headsU p qh E) (by omega) hs2 W (hT2.r1.ss.keep hW)
       have hbwq := hbw19.trans (HBB.out.mono hbw19.size)
       clear hs1 hs2 hT2 hlh hls hmE hml
       cases hu6 : unlikeB 6 (sumsU p qh E)
       ·have hu2 : unlikeB 2 (headsU p qh E) = true := by have := HUN.out; rw [hu6] at this; simpa using this
        rw [hu6] at qU
        rw [hu2] at qV
        clear hu6 hu2
        go_wp2_with fail
        refine qU.mono ?_
        rintro e w30 ⟨rfl, hb30⟩
        go_wp2_with fail
        refine (qV _ hb30).mono ?_
        rintro e w31 ⟨rfl, hb31⟩
        have hz31 := (hbwq.trans (hb30.mono hbwq.size)).trans (hb31.mono (Nat.le_trans hbwq.size hb30.size))
        go_wp2_with fail
        go_ret
        exact ⟨rfl, hz31⟩
       ·rw [hu6] at qU
        clear hu6 qV
        go_wp2_with fail
        refine qU.mono ?_
        rintro e w30 ⟨rfl, hb30⟩
        have hz31 := hbwq.trans (hb30.mono hbwq.size)
        go_wp2_with fail
        go_ret
        exact ⟨rfl, hz31⟩
   ·obtain rfl : k = ns.length := by omega
    have k1 : decide ((ns.length : Int) < (ns.length : Int)) = false := by simp
    have k2 : decide (ns.length < ns.length) = false := by simp
    have hbz := hb014.trans (hbr.mono hb014.size)
    clear hkn hkl
    go_wp2_with fail
    go_ret
    exact ⟨rfl, hbz⟩
end Go.Proofs.YthkpmlfaddlieaaGreatDoor
