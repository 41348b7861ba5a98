/- Grow, GrowB, ScanP, RootR. -/
import Derived.Test.YthkpmlfaddlieaaGreatDoorMs10
set_option linter.unnecessarySimpa false
set_option linter.unusedSimpArgs false
set_option linter.unusedVariables false
set_option maxRecDepth 100000
set_option maxHeartbeats 32000000
namespace Go.Proofs.YthkpmlfaddlieaaGreatDoor
open Go.RowKit Go.Shelf Pl
theorem SpotO.nil (w : World) : SpotO w [] (.returned (.slice none 0 0)) w := ⟨_, rfl, SpRow.nil _ _, Below.refl _ _⟩
def GrOk (n : Nat) : Prop := ∀ (l : List It) (p : Bs), GoodG n l → l.length ≤ 1024 → p.length + 17 * n ≤ 1000 → ∀ (v : Value) (w : World), IL w v l → Calls Tryz.prog 134 #[v, .string ⟨p.toArray⟩] w (SpotO w (gr n l p))
theorem rgrown_nil (p : Bs) (v : Value) (w : World) (hv : IL w v []) : Calls Tryz.prog 134 #[v, .string ⟨p.toArray⟩] w (SpotO w []) := by
 obtain ⟨va, vc, rfl⟩ := hv.form
 clear hv
 go_enter Tryz.func134, Tryz.ntmps134
 go_wp2_with fail
 go_ret
 exact SpotO.nil w
theorem rgrown_one (n : Nat) (l : List It) (p : Bs) (hn : n + 1 ≤ 17) (hG : GoodG (n + 1) l) (h1 : l.length = 1) (v : Value) (w : World) (hv : IL w v l) : Calls Tryz.prog 134 #[v, .string ⟨p.toArray⟩] w (SpotO w (gr (n + 1) l p)) := by
 have hfi := (gr_fine (n + 1) l p hn hG).1
 rw [show gr (n + 1) l p = [⟨p, 1, firstK l, val0 l, noK⟩] from by unfold gr; rw [if_neg (by omega), if_pos h1]] at hfi ⊢
 have hf : fineR 1 (firstK l) (val0 l) noK = true := hfi ⟨p, 1, firstK l, val0 l, noK⟩ (List.mem_singleton.2 rfl)
 have hpl : (firstK l).length ≤ 1000 := by have := (hG.2 _ (it_mem (l := l) (i := 0) (by omega))).2.1; have e : (l.getD 0 i0).1.length = (firstK l).length := rfl; omega
 obtain ⟨va, vc, rfl⟩ := hv.form
 obtain ⟨g, off, e1, hg, c1, c2⟩ := hv.at 0 (by omega)
 subst e1
 have hc1 : w.cell? ⟨g, off, none⟩ = some (.string ⟨List.toArray ((firstK l))⟩) := c1
 have hc2 : w.cell? ⟨g, off + 1, none⟩ = some (.string ⟨List.toArray ((val0 l))⟩) := c2
 have q1 := fun (W : World) => spot_any p 1 (firstK l) (val0 l) noK hf hpl (.slice none 0 0) [] (by simp) W (SpL.nil _)
 generalize firstK l = a at *
 generalize val0 l = b at *
 rw [h1]
 clear hfi hG h1 hv c1 c2 hf
 go_enter Tryz.func134, Tryz.ntmps134
 go_wp2_with fail
 refine wpH_start (by kernel_rfl) (fun hS => ?_)
 (refine hP 0 ?_ ⟨some 20, .move (.tmp 1), 9, "", #[], none⟩ hS ?_ ?_; rotate_left; focus (intro w; go_simp; try with_reducible rfl))
 try simp only [pna, pnb, pnc, pnd, pne]
 (refine hP 1 ?_ ⟨some 21, .move (.tmp 0), 38, "", #[], none⟩ hS ?_ ?_; rotate_left; focus (intro w; go_simp; try with_reducible rfl))
 try simp only [pna, pnb, pnc, pnd, pne]
 (refine hP 2 ?_ ⟨some 22, .indexAddr 38 (.tmp 21) (.const (.int .i64 0)), 0, "", #[], none⟩ hS ?_ ?_; rotate_left; focus (intro w; go_simp; try with_reducible rfl))
 try simp only [pna, pnb, pnc, pnd, pne]
 (refine hP 3 ?_ ⟨some 23, .fieldAddr 203 (.tmp 22) 0, 0, "", #[], none⟩ hS ?_ ?_; rotate_left; focus (intro w; go_simp; try with_reducible rfl))
 try simp only [pna, pnb, pnc, pnd, pne]
 refine wpH_load 4 (.string ⟨a.toArray⟩) (oi := ⟨some 24,.load 9 (.tmp 23),9,"ref.go:110",#[⟨3,.data⟩],none⟩) rfl (by kernel_rfl) (by kernel_rfl) (by kernel_rfl) (by rfl) hS (fun _ _ _ h => h) (fun w' hb2 => (by have c := (hb2.cell (p := ⟨g, off, none⟩) hg).trans hc1; go_simp; try rfl)) ?_
 try simp only [pna, pnb, pnc, pnd, pne]
 (refine hP 5 ?_ ⟨some 25, .move (.tmp 0), 38, "", #[], none⟩ hS ?_ ?_; rotate_left; focus (intro w; go_simp; try with_reducible rfl))
 try simp only [pna, pnb, pnc, pnd, pne]
 (refine hP 6 ?_ ⟨some 26, .indexAddr 38 (.tmp 25) (.const (.int .i64 0)), 0, "", #[], none⟩ hS ?_ ?_; rotate_left; focus (intro w; go_simp; try with_reducible rfl))
 try simp only [pna, pnb, pnc, pnd, pne]
 (refine hP 7 ?_ ⟨some 27, .fieldAddr 203 (.tmp 26) 1, 0, "", #[], none⟩ hS ?_ ?_; rotate_left; focus (intro w; go_simp; try with_reducible rfl))
 try simp only [pna, pnb, pnc, pnd, pne]
 refine wpH_load 8 (.string ⟨b.toArray⟩) (oi := ⟨some 28,.load 9 (.tmp 27),9,"ref.go:110",#[⟨7,.data⟩],none⟩) rfl (by kernel_rfl) (by kernel_rfl) (by kernel_rfl) (by rfl) hS (fun _ _ _ h => h) (fun w' hb2 => (by have c := (hb2.cell (p := ⟨g, off + 1, none⟩) hg).trans hc2; go_simp; try rfl)) ?_
 try simp only [pna, pnb, pnc, pnd, pne]
 refine wpH_load 9 (.agg (nd 1 a b noK).toArray) (oi := ⟨some 29,.build 173 #[(0, .const (Value.int IntKind.i64 1)), (1, .tmp 24), (2, .tmp 28)],173,"ref.go:110",#[⟨4,.data⟩, ⟨8,.data⟩],none⟩) rfl (by kernel_rfl) (by kernel_rfl) (by kernel_rfl) (by rfl) hS (fun _ _ _ h => h) (fun w' hb2 => (by kernel_rfl)) ?_
 try simp only [pna, pnb, pnc, pnd, pne]
 refine wpH_call 10 (oi := ⟨some 30,.call { callee := .value (.func 156), args := #[.tmp 20, .tmp 29, .const (Value.slice none 0 0)], argTypes := #[9, 173, 169] },169,"ref.go:110",#[⟨0,.data⟩, ⟨9,.data⟩],none⟩) rfl (by kernel_rfl) (by rfl) (q1 _) ?_ ?_
 ·(go_simp; try rfl)
 rintro e w' ⟨u, rfl, hr, hbx⟩
 refine ⟨_, rfl, hS.trans (hbx.mono hS.size), ?_⟩
 replace hS := hS.trans (hbx.mono hS.size)
 try simp only [pna, pnb, pnc, pnd, pne]
 (refine hP 11 ?_ ⟨some 4, .assign (.tmp 30), 169, "", #[], none⟩ hS ?_ ?_; rotate_left; focus (intro w; go_simp; try with_reducible rfl))
 try simp only [pna, pnb, pnc, pnd, pne]
 refine wpAnyH_done (by kernel_rfl) ?_ _
 go_wp2_with fail
 go_ret
 exact ⟨u, rfl, hr.low (Nat.le_refl _), hS⟩
theorem rgrown_ext (n : Nat) (ih : GrOk n) (l : List It) (p : Bs) (hn : n + 1 ≤ 17) (hG : GoodG (n + 1) l) (h2 : 2 ≤ l.length) (hl : l.length ≤ 1024) (hp : p.length + 17 * (n + 1) ≤ 1000) (hc : 0 < comI l) (v : Value) (w : World) (hv : IL w v l) :
  Calls Tryz.prog 134 #[v, .string ⟨p.toArray⟩] w (SpotO w (gr (n + 1) l p)) := by
 have hfi := (gr_fine (n + 1) l p hn hG).1
 have hcl := com_all hG.1
 have hkl : ∀ i, i < l.length → ((l.getD i ([], [])).1).length ≤ 1000 := fun i hi => by have := (hG.2 _ (it_mem (l := l) hi)).2.1; have e : (l.getD i ([], [])).1.length = (l.getD i i0).1.length := rfl; omega
 have hgr : gr (n + 1) l p = ⟨p, 2, (firstK l).take (comI l), [], upd noK 0 (headS (gr n (lessI (comI l) l) (p ++ (firstK l).take (comI l))))⟩ :: gr n (lessI (comI l) l) (p ++ (firstK l).take (comI l)) := by
  conv => lhs; unfold gr
  rw [if_neg (by omega), if_neg (by omega), if_pos hc]
 rw [hgr] at hfi ⊢
 have hf := hfi _ (List.mem_cons_self ..)
 have hcf : comI l ≤ (firstK l).length := (hcl 0 (by omega)).2
 have hfk : (firstK l).length ≤ 16 := by have := (hG.2 _ (it_mem (l := l) (i := 0) (by omega))).2.1; have e : (l.getD 0 i0).1.length = (firstK l).length := rfl; omega
 have hne : gr n (lessI (comI l) l) (p ++ (firstK l).take (comI l)) ≠ [] := gr_ne (hG.less hc) (fun e => by have := less_len (comI l) l; rw [e] at this; simp at this; omega)
 have hcnt := gr_count n (lessI (comI l) l) (p ++ (firstK l).take (comI l))
 rw [less_len] at hcnt
 have hcn : (gr n (lessI (comI l) l) (p ++ (firstK l).take (comI l))).length ≤ 20000 := by
  have : n * l.length ≤ 16 * 1024 := Nat.mul_le_mul (by omega) hl
  omega
 have qi := ih (lessI (comI l) l) (p ++ (firstK l).take (comI l)) (hG.less hc) (by rw [less_len]; exact hl) (by rw [List.length_append, List.length_take]; omega)
 have ql := fun W (hb : Below w.heap.size w W) => rless_any v l (comI l) (fun i hi => (hcl i hi).2) hkl (by omega) W (hv.keep hb)
 obtain ⟨va, vc, rfl⟩ := hv.form
 obtain ⟨g, off, e1, hg, c1, _⟩ := hv.at 0 (by omega)
 subst e1
 obtain ⟨g', off', e2, _, c2, _⟩ := hv.at (l.length - 1) (by omega)
 injection e2 with e2
 injection e2 with e2 e3 _
 subst e2 e3
 have hc1 : w.cell? ⟨g, off, none⟩ = some (.string ⟨List.toArray ((firstK l))⟩) := c1
 have hc2 : w.cell? ⟨g, off + (l.length - 1) * 2, none⟩ = some (.string ⟨List.toArray ((lastK' l))⟩) := c2
 have qc := fun W => rcommon_any (firstK l) (lastK' l) (by omega) (by have := hkl (l.length - 1) (by omega); have e : (l.getD (l.length - 1) ([], [])).1.length = (lastK' l).length := rfl; omega) W
 rw [show common (firstK l) (lastK' l) = comI l from rfl] at qc
 have QI := Lib.hid qi
 have QL := Lib.hid ql
 have HNE := Lib.hid hne
 have HCN := Lib.hid hcn
 have HF := Lib.hid hf
 clear hfi hcl hkl hgr hf hcnt hne hcn qi ql ih hG c1 c2 hv
 generalize hGS : gr n (lessI (comI l) l) (p ++ (firstK l).take (comI l)) = GS at *
 clear hGS
 generalize lessI (comI l) l = LL at *
 generalize comI l = c at *
 generalize firstK l = a at *
 generalize lastK' l = z at *
 obtain ⟨m, hm⟩ : ∃ m, l.length = m + 2 := ⟨l.length - 2, by omega⟩
 rw [hm] at QL hc2 ⊢
 rw [show m + 2 - 1 = m + 1 from rfl] at hc2
 have i1 : (m : Int) + 2 ≤ 1024 := by omega
 clear hm hl h2
 go_enter Tryz.func134, Tryz.ntmps134
 go_wp2_with fail
 have i2 : (0 : Int) < (m : Int) + 2 := by omega
 have i3 : IntKind.i64.wrap ((m : Int) + 1) = (m : Int) + 1 := by rw [IntKind.wrap_i64]; omega
 have i7 : IntKind.i64.wrap ((m : Int) + 2 - 1) = (m : Int) + 1 := by rw [IntKind.wrap_i64]; omega
 have i4 : (m : Int) + 1 < (m : Int) + 2 := by omega
 have i5 : (0 : Int) ≤ (m : Int) + 1 := by omega
 have i6 : ((m : Int) + 1).toNat = m + 1 := by omega
 refine wp_held rfl (by kernel_rfl) ?_
 (refine qP ?_ ?_ ?_; rotate_left; focus (intro w; go_simp; try with_reducible rfl))
 try simp only [pna, pnb, pnc, pnd, pne]
 refine wpQ_pure (by rfl) (.pointer (some ⟨g, off, none⟩)) (fun w => (by go_simp; try simp only [i3, i7, i4, i5, i6, and_self, if_true])) ?_
 try simp only [pna, pnb, pnc, pnd, pne]
 (refine qP ?_ ?_ ?_; rotate_left; focus (intro w; go_simp; try with_reducible rfl))
 try simp only [pna, pnb, pnc, pnd, pne]
 refine wpQ_load (by rfl) (.string ⟨a.toArray⟩) (fun w' hb2 => (by have c := (hb2.cell (p := ⟨g, off, none⟩) hg).trans hc1; go_simp; try rfl)) ?_
 try simp only [pna, pnb, pnc, pnd, pne]
 (refine qP ?_ ?_ ?_; rotate_left; focus (intro w; go_simp; try with_reducible rfl))
 try simp only [pna, pnb, pnc, pnd, pne]
 (refine qP ?_ ?_ ?_; rotate_left; focus (intro w; go_simp; try with_reducible rfl))
 try simp only [pna, pnb, pnc, pnd, pne]
 (refine qP ?_ ?_ ?_; rotate_left; focus (intro w; go_simp; try with_reducible rfl))
 try simp only [pna, pnb, pnc, pnd, pne]
 (refine qP ?_ ?_ ?_; rotate_left; focus (intro w; go_simp; try with_reducible rfl))
 try simp only [pna, pnb, pnc, pnd, pne]
 refine wpQ_pure (by rfl) (.pointer (some ⟨g, off + (m + 1) * 2, none⟩)) (fun w => (by go_simp; try simp only [i3, i7, i4, i5, i6, and_self, if_true])) ?_
 try simp only [pna, pnb, pnc, pnd, pne]
 (refine qP ?_ ?_ ?_; rotate_left; focus (intro w; go_simp; try with_reducible rfl))
 try simp only [pna, pnb, pnc, pnd, pne]
 refine wpQ_load (by rfl) (.string ⟨z.toArray⟩) (fun w' hb2 => (by have c := (hb2.cell (p := ⟨g, off + (m + 1) * 2, none⟩) hg).trans hc2; go_simp; try rfl)) ?_
 try simp only [pna, pnb, pnc, pnd, pne]
 refine wpQ_call (by rfl) _ _ (.int .i64 c) (callD (fun w' hb => qc w')) (by intro w; go_simp; try rfl) ?_
 try simp only [pna, pnb, pnc, pnd, pne]
 (refine qP ?_ ?_ ?_; rotate_left; focus (intro w; go_simp; try with_reducible rfl))
 try simp only [pna, pnb, pnc, pnd, pne]
 intro w1 hb1
 have hc1 := (hb1.cell (p := ⟨g, off, none⟩) hg).trans hc1
 have hca : (c : Int) ≤ (a.length : Int) := by omega
 have hcp : (0 : Int) < (c : Int) := by omega
 have hpc : p.length + c ≤ 9223372036854775807 := by omega
 clear qc hc2 i3 i4 i5 i6 i7
 go_wp2_with fail
 refine wpH_start (by kernel_rfl) (fun hS => ?_)
 (refine hP 0 ?_ ⟨some 45, .move (.tmp 0), 38, "", #[], none⟩ hS ?_ ?_; rotate_left; focus (intro w; go_simp; try with_reducible rfl))
 try simp only [pna, pnb, pnc, pnd, pne]
 (refine hP 1 ?_ ⟨some 46, .move (.tmp 5), 3, "", #[], none⟩ hS ?_ ?_; rotate_left; focus (intro w; go_simp; try with_reducible rfl))
 try simp only [pna, pnb, pnc, pnd, pne]
 (refine hP 3 ?_ ⟨some 48, .move (.tmp 1), 9, "", #[], none⟩ hS ?_ ?_; rotate_left; focus (intro w; go_simp; try with_reducible rfl))
 try simp only [pna, pnb, pnc, pnd, pne]
 (refine hP 4 ?_ ⟨some 49, .move (.tmp 0), 38, "", #[], none⟩ hS ?_ ?_; rotate_left; focus (intro w; go_simp; try with_reducible rfl))
 try simp only [pna, pnb, pnc, pnd, pne]
 refine wpH_load 5 (.pointer (some ⟨g, off, none⟩)) (oi := ⟨some 50,.indexAddr 38 (.tmp 49) (.const (Value.int IntKind.i64 0)),0,"ref.go:114",#[⟨4,.data⟩],none⟩) rfl (by kernel_rfl) (by kernel_rfl) (by kernel_rfl) (by rfl) hS (fun _ _ _ h => h) (fun w' hb2 => (by go_simp)) ?_
 try simp only [pna, pnb, pnc, pnd, pne]
 (refine hP 6 ?_ ⟨some 51, .fieldAddr 203 (.tmp 50) 0, 0, "", #[], none⟩ hS ?_ ?_; rotate_left; focus (intro w; go_simp; try with_reducible rfl))
 try simp only [pna, pnb, pnc, pnd, pne]
 refine wpH_load 7 (.string ⟨a.toArray⟩) (oi := ⟨some 52,.load 9 (.tmp 51),9,"ref.go:114",#[⟨6,.data⟩],none⟩) rfl (by kernel_rfl) (by kernel_rfl) (by kernel_rfl) (by rfl) hS (fun _ _ _ h => h) (fun w' hb2 => (by have c := (hb2.cell (p := ⟨g, off, none⟩) (Nat.lt_of_lt_of_le hg hb1.size)).trans hc1; go_simp; try rfl)) ?_
 try simp only [pna, pnb, pnc, pnd, pne]
 (refine hP 8 ?_ ⟨some 53, .move (.tmp 5), 3, "", #[], none⟩ hS ?_ ?_; rotate_left; focus (intro w; go_simp; try with_reducible rfl))
 try simp only [pna, pnb, pnc, pnd, pne]
 refine wpH_load 9 (.string ⟨List.toArray (a.take c)⟩) (oi := ⟨some 54,.slice 9 (.tmp 52) none (some (.tmp 53)) none,9,"ref.go:114",#[⟨7,.data⟩, ⟨8,.data⟩],none⟩) rfl (by kernel_rfl) (by kernel_rfl) (by kernel_rfl) (by rfl) hS (fun _ _ _ h => h) (fun w' hb2 => (by go_simp; try rfl)) ?_
 try simp only [pna, pnb, pnc, pnd, pne]
 refine wpH_load 10 (.string ⟨List.toArray (p ++ a.take c)⟩) (oi := ⟨some 55,.binOp BinOp.add 9 (.tmp 48) (.tmp 54) 9,9,"ref.go:114",#[⟨3,.data⟩, ⟨9,.data⟩],none⟩) rfl (by kernel_rfl) (by kernel_rfl) (by kernel_rfl) (by rfl) hS (fun _ _ _ h => h) (fun w' hb2 => (by go_simp)) ?_
 try simp only [pna, pnb, pnc, pnd, pne]
 refine wpH_call 2 (oi := ⟨some 47,.call { callee := .value (.func 158), args := #[.tmp 45, .tmp 46], argTypes := #[38, 3] },38,"ref.go:114",#[⟨0,.data⟩, ⟨1,.data⟩],none⟩) rfl (by kernel_rfl) (by rfl) (QL.out _ (hb1.trans (hS.mono hb1.size))) ?_ ?_
 ·(go_simp; try rfl)
 rintro e w' ⟨uL, rfl, hrL, hbx⟩
 refine ⟨_, rfl, hS.trans (hbx.mono hS.size), ?_⟩
 replace hS := hS.trans (hbx.mono hS.size)
 try simp only [pna, pnb, pnc, pnd, pne]
 refine wpH_call 11 (oi := ⟨some 56,.call { callee := .value (.func 134), args := #[.tmp 47, .tmp 55], argTypes := #[38, 9] },169,"ref.go:114",#[⟨2,.data⟩, ⟨10,.data⟩, ⟨2,.chain⟩],none⟩) rfl (by kernel_rfl) (by rfl) (QI.out _ _ hrL.il) ?_ ?_
 ·(go_simp; try rfl)
 rintro e w' ⟨uG, rfl, hrG, hbx⟩
 refine ⟨_, rfl, hS.trans (hbx.mono hS.size), ?_⟩
 replace hS := hS.trans (hbx.mono hS.size)
 try simp only [pna, pnb, pnc, pnd, pne]
 (refine hP 12 ?_ ⟨some 6, .assign (.tmp 56), 169, "", #[], none⟩ hS ?_ ?_; rotate_left; focus (intro w; go_simp; try with_reducible rfl))
 try simp only [pna, pnb, pnc, pnd, pne]
 refine wpAnyH_done (by kernel_rfl) ?_ _
 have hb3 := hb1.trans (hS.mono hb1.size)
 have hG0 := hrG.sp
 have hGn : 0 < GS.length := by
  rcases hz : GS with _ | ⟨x, r⟩
  ·exact absurd hz HNE.out
  ·simp
 obtain ⟨ga, gc, rfl⟩ := hG0.form
 obtain ⟨gg, go, rfl, hgg, hgc⟩ := hG0.head HNE.out
 have i8 : (0 : Int) < (GS.length : Int) := by omega
 have hc3 := (hb3.cell (p := ⟨g, off, none⟩) hg).trans ((hb1.cell (p := ⟨g, off, none⟩) hg).symm.trans hc1)
 have HG := Lib.hid hG0
 have hqs := fun (v : Value) (W : World) (hv : SpL W v GS) => spot_any p 2 (a.take c) [] (upd noK 0 (headS GS)) HF.out (by rw [List.length_take]; omega) v GS (by have := HCN.out; omega) W hv
 have HQS := Lib.hid hqs
 clear hqs hrL hrG hbx QL QI hS hc1 hb1
 obtain ⟨wN, hwN⟩ := Below.name hb3
 subst hwN
 go_wp2_with (first
  | (refine wpList_rowStore row_node rfl rfl (.tmp 7) (.tmp 63) rfl rfl (vs := nd 2 (a.take c) [] noK) rfl (nd_len _ _ _ _) (nd_one _ _ _ _) (us := nd 0 [] [] noK) (nd_len _ _ _ _) (Blk.new' (by simp)) ?_; intro w4 N4 m4; have hb4 : Below wN.heap.size wN w4 := Below.mod (Below.allocS (Below.refl _ _) _) m4 (by simp) (by simp); have hgc4 := (hb4.cell (p := ⟨gg, go + 2, none⟩) hgg).trans hgc; clear hgc m4; obtain ⟨b1, b2, b3⟩ := id N4)
  | (refine wpList_rowLoad row_node rfl (.tmp 7) rfl rfl (vs := nd 2 (a.take c) [] (upd noK 0 (headS GS))) (nd_len _ _ _ _) (by have N5 := N4.set 3 (.string ⟨List.toArray ((headS GS))⟩); rw [show (3 : Nat) = 3 + 0 from rfl, nd_setk _ _ _ _ 0 (by omega)] at N5; exact N5) ?_; have hb5 : Below wN.heap.size wN (w4.setCell ⟨wN.heap.size, 3, none⟩ (.string ⟨List.toArray ((headS GS))⟩)) := Below.mod hb4 ((Mod.refl [wN.heap.size] w4).setCell (.inl (by simp)) _) hb4.size (by simp); clear b1 b2 b3 N4)
  | fail)
 refine (HQS.out _ _ (HG.out.keep hb5)).mono ?_
 rintro e w6 ⟨u6, rfl, hr6, hb6⟩
 go_wp2_with fail
 go_ret
 have hbw := hb3.trans (hb5.mono hb3.size)
 exact ⟨u6, rfl, hr6.low hbw.size, hbw.trans (hb6.mono hbw.size)⟩
theorem IL.tail {w : World} {g o n c : Nat} {l : List It} (h : IL w (.slice (some ⟨g, o, none⟩) n c) l) (h1 : 1 ≤ l.length) : IL w (.slice (some ⟨g, o + 2, none⟩) (l.length - 1) (c - 1)) (l.drop 1) := by
 obtain ⟨a, cap, e, k1, k2, k3⟩ := h
 injection e with e1 e2 e3
 subst e1 e3
 obtain ⟨g', o', e4, hg, hs⟩ := k3 (by intro e; rw [e] at h1; simp at h1)
 injection e4 with e4
 injection e4 with e4 e5 _
 subst e4 e5
 refine ⟨_, c - 1, by rw [List.length_drop], by rw [List.length_drop]; omega, by omega, fun _ => ⟨g, o + 2, rfl, hg, fun i hi => ?_⟩⟩
 rw [List.length_drop] at hi
 have := hs (1 + i) (by omega)
 rw [show (l.drop 1).getD i ([], []) = l.getD (1 + i) ([], []) from by simp [List.getD_eq_getElem?_getD, List.getElem?_drop, Nat.add_comm], show o + 2 + i * 2 = o + (1 + i) * 2 from by omega]
 exact this
def kidTo (f : Nat → List Spt) (i : Nat) : Nat → Bs := fun j => if j < i then headS (f j) else []
theorem kidTo_zero (f : Nat → List Spt) : kidTo f 0 = noK := by funext j; simp [kidTo, noK]
theorem kidTo_upd (f : Nat → List Spt) (i : Nat) : upd (kidTo f i) i (headS (f i)) = kidTo f (i + 1) := by
 funext j
 unfold upd kidTo
 by_cases h : j = i
 ·subst h; simp
 ·by_cases h2 : j < i
  ·simp [h, h2]; omega
  ·simp [h, h2]; omega
theorem kidTo_same (f : Nat → List Spt) (i : Nat) (h : f i = []) : kidTo f i = kidTo f (i + 1) := by
 funext j
 unfold kidTo
 by_cases h1 : j = i
 ·subst h1; simp [h, headS]
 ·by_cases h2 : j < i
  ·simp [h2]; omega
  ·simp [h2]; omega
theorem kidTo_all (f : Nat → List Spt) (k : Int) (p v : Bs) : nd k p v (kidTo f 16) = nd k p v (fun i => headS (f i)) := by
 have : ka (kidTo f 16) = ka (fun i => headS (f i)) := by
  unfold ka kidL
  rw [List.map_map, List.map_map]
  refine List.map_congr_left fun j hj => ?_
  have := List.mem_range.1 hj
  simp [kidTo, this]
 unfold nd
 rw [this]
structure BrQ (w : World) (f : Nat → List Spt) (L : List It) (p V : Bs) : Prop where
 fin : fineR 3 [] V (fun i => headS (f i)) = true
 call : ∀ i, i < 16 → ∀ (v : Value) (W : World), IL W v (lessI 1 (L.filter (startsB i))) → Calls Tryz.prog 134 #[v, .string ⟨List.toArray (p ++ [UInt8.ofNat i])⟩] W (SpotO W (f i))
 few : ∀ k, k ≤ 16 → ((List.range k).flatMap f).length ≤ 20000
 small : L.length ≤ 1024
 key : ∀ k, k < L.length → ∃ b r, (L.getD k ([], [])).1 = b :: r ∧ r.length ≤ 16
theorem brq (w : World) (n : Nat) (ih : GrOk n) (l : List It) (p : Bs) (hn : n + 1 ≤ 17) (hG : GoodG (n + 1) l) (h2 : 2 ≤ l.length) (hl : l.length ≤ 1024) (hp : p.length + 17 * (n + 1) ≤ 1000) (hc : comI l = 0) :
  BrQ w (fun i => gr n (lessI 1 ((restI l).filter (startsB i))) (p ++ [UInt8.ofNat i])) (restI l) p (valI l) ∧ gr (n + 1) l p = grB (fun i => gr n (lessI 1 ((restI l).filter (startsB i))) (p ++ [UInt8.ofNat i])) p (valI l) := by
 have hgr : gr (n + 1) l p = grB (fun i => gr n (lessI 1 ((restI l).filter (startsB i))) (p ++ [UInt8.ofNat i])) p (valI l) := by
  conv => lhs; unfold gr
  rw [if_neg (by omega), if_neg (by omega), if_neg (by omega)]
 have hrl : (restI l).length ≤ l.length := by
  unfold restI
  split
  ·rw [List.length_drop]; omega
  ·exact Nat.le_refl _
 have hfl : ∀ i, ((restI l).filter (startsB i)).length ≤ 1024 := fun i => Nat.le_trans (List.length_filter_le _ _) (Nat.le_trans hrl hl)
 refine ⟨⟨?_, fun i hi v W hv => ih _ _ (hG.part i) (by rw [less_len]; exact hfl i) (by simp; omega) v W hv, fun k hk => ?_, Nat.le_trans hrl hl, fun k hk => ?_⟩, hgr⟩
 ·have hfi := (gr_fine (n + 1) l p hn hG).1
  rw [hgr] at hfi
  exact hfi _ (List.mem_cons_self ..)
 ·have := flat_leG (fun i => gr n (lessI 1 ((restI l).filter (startsB i))) (p ++ [UInt8.ofNat i])) n (restI l) (fun i => by have := gr_count n (lessI 1 ((restI l).filter (startsB i))) (p ++ [UInt8.ofNat i]); rwa [less_len] at this) k
  have h3 : n * ((restI l).filter (preB k)).length ≤ 16 * 1024 := Nat.mul_le_mul (by omega) (Nat.le_trans (List.length_filter_le _ _) (Nat.le_trans hrl hl))
  omega
 ·have hm : (restI l).getD k i0 ∈ restI l := it_mem hk
  have h1 := restI_key hG.1 hm
  have h3 := (hG.2 _ (restI_sub hm)).2.1
  rcases hx : ((restI l).getD k i0).1 with _ | ⟨b, r⟩
  ·exact absurd hx h1
  ·rw [hx] at h3
   exact ⟨b, r, rfl, by simp at h3; omega⟩
theorem BrQ.part {w : World} {f : Nat → List Spt} {L : List It} {p V : Bs} (h : BrQ w f L p V) (i j : Nat) (hj : j < (L.filter (startsB i)).length) : 1 ≤ (((L.filter (startsB i)).getD j ([], [])).1).length ∧ (((L.filter (startsB i)).getD j ([], [])).1).length ≤ 1000 := by
 have hm : (L.filter (startsB i)).getD j i0 ∈ L.filter (startsB i) := it_mem hj
 obtain ⟨k, hk, e⟩ := mem_it (List.mem_filter.1 hm).1
 obtain ⟨b, r, hx, hr⟩ := h.key k hk
 have e2 : ((L.filter (startsB i)).getD j ([], [])).1 = b :: r := by rw [← hx]; exact (congrArg Prod.fst e).symm
 rw [e2]
 simp; omega
end Go.Proofs.YthkpmlfaddlieaaGreatDoor
namespace Go.Proofs.YthkpmlfaddlieaaGreatDoor
open Go.RowKit Go.Shelf Pl
theorem rgrown_br (l : List It) (p : Bs) (f : Nat → List Spt) (h2 : 2 ≤ l.length) (hl : l.length ≤ 1024) (hp : p.length ≤ 990) (hc : comI l = 0) (hkl : ∀ i, i < l.length → ((l.getD i ([], [])).1).length ≤ 1000) (v : Value) (w : World) (hv : IL w v l)
  (hQ : BrQ w f (restI l) p (valI l)) : Calls Tryz.prog 134 #[v, .string ⟨p.toArray⟩] w (SpotO w (grB f p (valI l))) := by
 obtain ⟨va, vc, rfl⟩ := hv.form
 have hvc : l.length ≤ vc ∧ vc ≤ maxLen := by
  obtain ⟨a', cap, e, k1, k2, _⟩ := hv
  injection e with _ _ e3
  subst e3
  exact ⟨k1, k2⟩
 obtain ⟨g, off, e1, hg, c1, c1'⟩ := hv.at 0 (by omega)
 subst e1
 obtain ⟨g', off', e2, _, c2, _⟩ := hv.at (l.length - 1) (by omega)
 injection e2 with e2
 injection e2 with e2 e3 _
 subst e2 e3
 have hc1 : w.cell? ⟨g, off, none⟩ = some (.string ⟨List.toArray ((firstK l))⟩) := c1
 have hc1' : w.cell? ⟨g, off + 1, none⟩ = some (.string ⟨List.toArray ((val0 l))⟩) := c1'
 have hc2 : w.cell? ⟨g, off + (l.length - 1) * 2, none⟩ = some (.string ⟨List.toArray ((lastK' l))⟩) := c2
 have qc := fun W => rcommon_any (firstK l) (lastK' l) (by have := hkl 0 (by omega); have e : (l.getD 0 ([], [])).1.length = (firstK l).length := rfl; omega) (by have := hkl (l.length - 1) (by omega); have e : (l.getD (l.length - 1) ([], [])).1.length = (lastK' l).length := rfl; omega) W
 rw [show common (firstK l) (lastK' l) = comI l from rfl, hc] at qc
 have htl := hv.tail (by omega)
 have HRI : Hid (restI l = if firstK l = [] then l.drop 1 else l) := Lib.hid rfl
 have HVI : Hid (valI l = if firstK l = [] then val0 l else []) := Lib.hid rfl
 have HQ := Lib.hid hQ
 have HTL := Lib.hid htl
 have HV := Lib.hid hv
 clear c1 c1' c2 hc hkl htl hQ hv
 generalize firstK l = a at *
 generalize lastK' l = z at *
 generalize restI l = L at *
 generalize valI l = V at *
 generalize val0 l = b0 at *
 obtain ⟨m, hm⟩ : ∃ m, l.length = m + 2 := ⟨l.length - 2, by omega⟩
 rw [hm] at hc2 HTL HV hvc ⊢
 rw [show m + 2 - 1 = m + 1 from rfl] at hc2 HTL
 have i1 : (m : Int) + 2 ≤ 1024 := by omega
 have i2 : (0 : Int) < (m : Int) + 2 := by omega
 have i3 : IntKind.i64.wrap ((m : Int) + 1) = (m : Int) + 1 := by rw [IntKind.wrap_i64]; omega
 have i7 : IntKind.i64.wrap ((m : Int) + 2 - 1) = (m : Int) + 1 := by rw [IntKind.wrap_i64]; omega
 have i4 : (m : Int) + 1 < (m : Int) + 2 := by omega
 have i5 : (0 : Int) ≤ (m : Int) + 1 := by omega
 have i6 : ((m : Int) + 1).toNat = m + 1 := by omega
 have HM := Lib.hid hm
 clear hm hl h2
 go_enter Tryz.func134, Tryz.ntmps134
 go_wp2_with fail
 refine wp_held rfl (by kernel_rfl) ?_
 (refine qP ?_ ?_ ?_; rotate_left; focus (intro w; go_simp; try with_reducible rfl))
 try simp only [pna, pnb, pnc, pnd, pne]
 refine wpQ_pure (by rfl) (.pointer (some ⟨g, off, none⟩)) (fun w => (by go_simp)) ?_
 try simp only [pna, pnb, pnc, pnd, pne]
 (refine qP ?_ ?_ ?_; rotate_left; focus (intro w; go_simp; try with_reducible rfl))
 try simp only [pna, pnb, pnc, pnd, pne]
 refine wpQ_load (by rfl) (.string ⟨a.toArray⟩) (fun w' hb2 => (by have c := (hb2.cell (p := ⟨g, off, none⟩) hg).trans hc1; go_simp; try rfl)) ?_
 try simp only [pna, pnb, pnc, pnd, pne]
 (refine qP ?_ ?_ ?_; rotate_left; focus (intro w; go_simp; try with_reducible rfl))
 try simp only [pna, pnb, pnc, pnd, pne]
 (refine qP ?_ ?_ ?_; rotate_left; focus (intro w; go_simp; try with_reducible rfl))
 try simp only [pna, pnb, pnc, pnd, pne]
 (refine qP ?_ ?_ ?_; rotate_left; focus (intro w; go_simp; try with_reducible rfl))
 try simp only [pna, pnb, pnc, pnd, pne]
 (refine qP ?_ ?_ ?_; rotate_left; focus (intro w; go_simp; try with_reducible rfl))
 try simp only [pna, pnb, pnc, pnd, pne]
 refine wpQ_pure (by rfl) (.pointer (some ⟨g, off + (m + 1) * 2, none⟩)) (fun w => (by go_simp; try simp only [i3, i7, i4, i5, i6, and_self, if_true])) ?_
 try simp only [pna, pnb, pnc, pnd, pne]
 (refine qP ?_ ?_ ?_; rotate_left; focus (intro w; go_simp; try with_reducible rfl))
 try simp only [pna, pnb, pnc, pnd, pne]
 refine wpQ_load (by rfl) (.string ⟨z.toArray⟩) (fun w' hb2 => (by have c := (hb2.cell (p := ⟨g, off + (m + 1) * 2, none⟩) hg).trans hc2; go_simp; try rfl)) ?_
 try simp only [pna, pnb, pnc, pnd, pne]
 refine wpQ_call (by rfl) _ _ (.int .i64 0) (callD (fun w' hb => qc w')) (by intro w; go_simp; try rfl) ?_
 try simp only [pna, pnb, pnc, pnd, pne]
 (refine qP ?_ ?_ ?_; rotate_left; focus (intro w; go_simp; try with_reducible rfl))
 try simp only [pna, pnb, pnc, pnd, pne]
 intro w1 hb1
 have hc1 := (hb1.cell (p := ⟨g, off, none⟩) hg).trans hc1
 have hc1' := (hb1.cell (p := ⟨g, off + 1, none⟩) hg).trans hc1'
 clear qc hc2 i3 i5 i6 i7
 have hg1 := Nat.lt_of_lt_of_le hg hb1.size
 go_upto_if 79 with (first
  | (refine wpList_rowStore row_node rfl rfl (.tmp 8) (.tmp 74) rfl rfl (vs := nd 3 [] [] noK) rfl (nd_len _ _ _ _) (nd_one _ _ _ _) (us := nd 0 [] [] noK) (nd_len _ _ _ _) (Blk.new' (by simp)) ?_; intro w4 N4 m4; have hb4 : Below w1.heap.size w1 w4 := Below.mod (Below.allocS (Below.refl _ _) _) m4 (by simp) (by simp); have hk4 := (hb4.cell (p := ⟨g, off, none⟩) hg1).trans hc1; have hk4' := (hb4.cell (p := ⟨g, off + 1, none⟩) hg1).trans hc1'; clear m4 hc1 hc1')
  | fail)
 have HV1 := Lib.hid (HV.out.keep hb1)
 have HT1 := Lib.hid (HTL.out.keep hb1)
 have HQB := Lib.hid hb1
 clear HV HTL
 go_cut [0, 8] (fun s0 s8 wx => ∃ (va : Option Addr) (c : Nat), s0 = .slice va L.length c ∧ s8 = .pointer (some ⟨w1.heap.size, 0, none⟩) ∧ Hid (IL w1 (.slice va L.length c) L) ∧ Hid (Blk wx w1.heap.size (nd 3 [] V noK).toArray) ∧ Below w1.heap.size w1 wx)
 case first =>
  obtain ⟨b1, b2, b3⟩ := id N4
  have hlt := N4.lt
  have hvm := hvc.2
  have hv1 := hvc.1
  unfold maxLen at hvm
  by_cases ha : a = []
  ·have e1 := HRI.out
   have e2 := HVI.out
   rw [if_pos ha] at e1 e2
   subst e1 e2 ha
   have hvn : ¬ vc = 1 := by omega
   have hv2 : (1 : Int) ≤ (vc : Int) := by omega
   clear HRI HVI HQ HV1
   go_wp2_with fail
   go_meet
   have hb5 : Below w1.heap.size w1 (w4.setCell ⟨w1.heap.size, 2, none⟩ (.string ⟨List.toArray V⟩)) := Below.mod hb4 ((Mod.refl [w1.heap.size] w4).setCell (.inl (by simp)) _) hb4.size (by simp)
   have hdl : (l.drop 1).length = m + 1 := by have := HM.out; rw [List.length_drop]; omega
   refine ⟨some ⟨g, off + 2, none⟩, vc - 1, by rw [hdl], rfl, Lib.hid ?_, Lib.hid ?_, hb5⟩
   ·rw [hdl]; exact HT1.out
   ·have := N4.set 2 (.string ⟨List.toArray V⟩); rw [nd_set2] at this; exact this
  ·have e1 := HRI.out
   have e2 := HVI.out
   rw [if_neg ha] at e1 e2
   subst e1 e2
   have hd : a.isEmpty = false := by simpa using ha
   clear HRI HVI HQ HT1 ha
   rw [hd]
   go_wp2_with fail
   go_meet
   exact ⟨some ⟨g, off, none⟩, vc, by rw [HM.out], rfl, by rw [HM.out]; exact HV1, Lib.hid N4, hb4⟩
 case rest =>
  obtain ⟨va, c, rfl, rfl, HL, HN, hbc⟩ := hcut
  have HHP := Lib.hid hp
  have hLs := HL.out.small
  clear HRI HVI HT1 HV1 hk4 hk4' N4 hb4 hg1 hg hb1 hvc HM i1 i2 i4 hp
  go_wp2_with fail
  go_loopw [9, 10] (fun s9 s10 wr => ∃ i : Nat, s10 = .int .i64 i ∧ i ≤ 16 ∧ Hid (SpRow wr (w1.heap.size + 1) s9 ((List.range i).flatMap f)) ∧ Hid (Blk wr w1.heap.size (nd 3 [] V (kidTo f i)).toArray) ∧ Below w1.heap.size w1 wr) (fun _ s10 _ => 16 - (intOf s10).toNat)
  case atStart => exact ⟨0, rfl, by omega, Lib.hid (SpRow.nil _ _), Lib.hid (by rw [kidTo_zero]; exact HN.out), hbc⟩
  case round =>
   clear HN hbc
   obtain ⟨i, rfl, hi, HS, HN, hb⟩ := hrel
   obtain ⟨wr, hwr⟩ := Below.name hb
   subst hwr
   by_cases hlt : i < 16
   ·have i1 : decide ((i : Int) < 16) = true := by simp; omega
    have HI := Lib.hid hi
    have HLT := Lib.hid hlt
    clear hi hlt
    go_wp2_with fail
    go_loopw [11, 12] (fun s11 s12 wq => ∃ k : Nat, s12 = .int .i64 k ∧ k ≤ L.length ∧ Hid (IRow wq wr.heap.size s11 ((L.take k).filter (startsB i))) ∧ Below wr.heap.size wr wq) (fun _ s12 _ => L.length - (intOf s12).toNat)
    case atStart => exact ⟨0, rfl, by omega, Lib.hid (by simpa using IRow.nil _ _), Below.refl _ _⟩
    case round =>
     obtain ⟨k, rfl, hk, HR, hbq⟩ := hrel
     obtain ⟨wq, hwq⟩ := Below.name hbq
     subst hwq
     by_cases hkl : k < L.length
     ·obtain ⟨b, r, hx, hr⟩ := HQ.out.key k hkl
      obtain ⟨g, off, e1, hg, c1, c2⟩ := ((HL.out.keep hb).keep hbq).at k hkl
      have HT : Hid ((L.take (k + 1)).filter (startsB i) = (L.take k).filter (startsB i) ++ [L.getD k ([], [])].filter (startsB i)) := Lib.hid (by rw [takeI L k hkl, List.filter_append])
      have HFL : Hid (((L.take k).filter (startsB i)).length ≤ 1000000) := Lib.hid (by have := HQ.out.small; have := List.length_filter_le (startsB i) (L.take k); rw [List.length_take] at this; omega)
      have j1 : decide ((k : Int) < (L.length : Int)) = true := by simp; omega
      have j2 : (k : Int) < (L.length : Int) := by omega
      generalize L.getD k ([], []) = x at *
      obtain ⟨xk, xv⟩ := x
      simp only at c1 c2 hx HT
      subst hx e1
      have hbl := b.toNat_lt
      have hsb : startsB i (b :: r, xv) = decide (b.toNat = i) := by simp [startsB]; rfl
      by_cases hbi : b.toNat = i
      ·have HT2 := Lib.hid (show (L.take (k + 1)).filter (startsB i) = (L.take k).filter (startsB i) ++ [(b :: r, xv)] from by rw [HT.out]; simp [List.filter_cons, hsb, hbi])
       have d1 : ((b.toNat : Int) == (i : Int)) = true := by simp; omega
       have HKL := Lib.hid hkl
       clear HT hsb hbi hk
       go_wp2_with (first
        | (at_builtin; refine wpList_appI rfl (.tmp 106) (.tmp 111) rfl wr.heap.size _ ((L.take k).filter (startsB i)) rfl (HR.out.keep (Below.allocS (Below.refl _ _) _)) _ 0 1 1 [(b :: r, xv)] rfl rfl (isrc1 _ (b :: r) xv 203) (by have := HFL.out; omega) (by have := hbq.size; simp; omega) ?_; intro v5 w5 hr5 hb5)
        | fail)
       exact ⟨⟨k + 1, by go_num, HKL.out, Lib.hid (by rw [HT2.out]; exact hr5), (Below.allocS hbq _).trans hb5⟩, by have := HKL.out; simp [intOf]; omega⟩
      ·have HT2 := Lib.hid (show (L.take (k + 1)).filter (startsB i) = (L.take k).filter (startsB i) from by rw [HT.out]; simp [List.filter_cons, hsb, hbi])
       have d1 : ((b.toNat : Int) == (i : Int)) = false := by simp; omega
       have HKL := Lib.hid hkl
       clear HT hsb hbi hk
       go_wp2_with fail
       exact ⟨⟨k + 1, by go_num, HKL.out, Lib.hid (by rw [HT2.out]; exact HR.out), hbq⟩, by have := HKL.out; simp [intOf]; omega⟩
     ·have j1 : decide ((k : Int) < (L.length : Int)) = false := by simp; omega
      have HR2 : Hid (IRow wq wr.heap.size u11 (L.filter (startsB i))) := Lib.hid (by have := HR.out; rwa [List.take_of_length_le (by omega)] at this)
      clear HR
      go_wp2_with fail
      have hls := fun W hb => rless_any u11 (L.filter (startsB i)) 1 (fun j hj => (HQ.out.part i j hj).1) (fun j hj => (HQ.out.part i j hj).2) (Nat.le_trans (List.length_filter_le _ _) (by have := HQ.out.small; omega)) W (HR2.out.il.keep (show Below wq.heap.size wq W from hb))
      have hu8 : IntKind.u8.wrap (i : Int) = i := by have := HLT.out; rw [IntKind.wrap_u8]; omega
      have hci := HQ.out.call i HLT.out
      have hpl : p.length + 1 ≤ 9223372036854775807 := by have := HHP.out; omega
      refine wpH_start (by kernel_rfl) (fun hS => ?_)
      (refine hP 0 ?_ ⟨some 113, .move (.tmp 11), 38, "", #[], none⟩ hS ?_ ?_; rotate_left; focus (intro w; go_simp; try with_reducible rfl))
      try simp only [pna, pnb, pnc, pnd, pne]
      (refine hP 2 ?_ ⟨some 115, .move (.tmp 1), 9, "", #[], none⟩ hS ?_ ?_; rotate_left; focus (intro w; go_simp; try with_reducible rfl))
      try simp only [pna, pnb, pnc, pnd, pne]
      (refine hP 3 ?_ ⟨some 116, .move (.tmp 10), 3, "", #[], none⟩ hS ?_ ?_; rotate_left; focus (intro w; go_simp; try with_reducible rfl))
      try simp only [pna, pnb, pnc, pnd, pne]
      refine wpH_load 4 (.int .u8 (i : Int)) (oi := ⟨some 117,.convert 3 5 (.tmp 116),5,"ref.go:132",#[⟨3,.data⟩],none⟩) rfl (by kernel_rfl) (by kernel_rfl) (by kernel_rfl) (by rfl) hS (fun _ _ _ h => h) (fun w' hb2 => (by go_simp)) ?_
      try simp only [pna, pnb, pnc, pnd, pne]
      refine wpAnyH_all (rs := [1, 5]) (by kernel_rfl) (by simp) (fun jj hjj => ?_)
      simp only [List.mem_cons, List.not_mem_nil, or_false] at hjj
      rcases hjj with rfl | rfl
      refine wpO_call (oi := ⟨some 114,.call { callee := .value (.func 158), args := #[.tmp 113, .const (Value.int IntKind.i64 1)], argTypes := #[38, 3] },38,"ref.go:132",#[⟨0,.data⟩],none⟩) rfl (by rfl) (hls _ hS) ?_ ?_
      ·(go_simp; try rfl)
      rintro e w' ⟨uL, rfl, hrL, hbx⟩
      refine ⟨_, rfl, hS.trans (hbx.mono hS.size), ?_⟩
      replace hS := hS.trans (hbx.mono hS.size)
      try (have KB := KB.keep hbx)
      have hX := hS.size
      try simp only [pna, pnb, pnc, pnd, pne]
      refine wpH_op 5 (oi := ⟨some 118,.buildSlice 130 1 #[(0, .tmp 117)],130,"ref.go:132",#[⟨4,.data⟩],none⟩) rfl (by kernel_rfl) (by rfl) ?_
      refine wp_newK 5 #[.int .u8 (i : Int)] (fun k => .slice (some ⟨k, 0, none⟩) 1 1) (fun W2 => (by kernel_rfl)) ?_
      intro k3 w3 hk3 hh3 hl3 hb3
      have KB := Blk.of_heap hh3 hl3
      try (have hrL := hrL.keep hb3)
      refine ⟨hS.trans (hb3.mono hS.size), ?_⟩
      replace hS := hS.trans (hb3.mono hS.size)
      try simp only [pna, pnb, pnc, pnd, pne]
      refine wpH_op 6 (oi := ⟨some 119,.convert 130 9 (.tmp 118),9,"ref.go:132",#[⟨5,.data⟩],none⟩) rfl (by kernel_rfl) (by rfl) ?_
      refine wp_loads (.string ⟨List.toArray ([UInt8.ofNat i])⟩) (by have c := KB.cell 0; go_simp; try rfl) ?_
      have hX := hS.size
      refine ⟨hS, ?_⟩
      try simp only [pna, pnb, pnc, pnd, pne]
      refine wpH_load 7 (.string ⟨List.toArray (p ++ [UInt8.ofNat i])⟩) (oi := ⟨some 120,.binOp BinOp.add 9 (.tmp 115) (.tmp 119) 9,9,"ref.go:132",#[⟨2,.data⟩, ⟨6,.data⟩],none⟩) rfl (by kernel_rfl) (by kernel_rfl) (by kernel_rfl) (by rfl) hS (fun _ _ _ h => h) (fun w' hb2 => (by go_simp)) ?_
      try simp only [pna, pnb, pnc, pnd, pne]
      refine wpH_call 8 (oi := ⟨some 121,.call { callee := .value (.func 134), args := #[.tmp 114, .tmp 120], argTypes := #[38, 9] },169,"ref.go:132",#[⟨1,.data⟩, ⟨7,.data⟩, ⟨1,.chain⟩],none⟩) rfl (by kernel_rfl) (by rfl) (hci _ _ hrL.il) ?_ ?_
      ·(go_simp; try rfl)
      rintro e w' ⟨uG, rfl, hrG, hbx⟩
      refine ⟨_, rfl, hS.trans (hbx.mono hS.size), ?_⟩
      replace hS := hS.trans (hbx.mono hS.size)
      try simp only [pna, pnb, pnc, pnd, pne]
      (refine hP 9 ?_ ⟨some 13, .assign (.tmp 121), 169, "", #[], none⟩ hS ?_ ?_; rotate_left; focus (intro w; go_simp; try with_reducible rfl))
      try simp only [pna, pnb, pnc, pnd, pne]
      refine wpAnyH_done (by kernel_rfl) ?_ _
      rotate_left
      refine wpO_op (oi := ⟨some 118,.buildSlice 130 1 #[(0, .tmp 117)],130,"ref.go:132",#[⟨4,.data⟩],none⟩) rfl (by rfl) ?_
      refine wp_newK 5 #[.int .u8 (i : Int)] (fun k => .slice (some ⟨k, 0, none⟩) 1 1) (fun W2 => (by kernel_rfl)) ?_
      intro k3 w3 hk3 hh3 hl3 hb3
      have KB := Blk.of_heap hh3 hl3
      try (have hrL := hrL.keep hb3)
      refine ⟨hS.trans (hb3.mono hS.size), ?_⟩
      replace hS := hS.trans (hb3.mono hS.size)
      try simp only [pna, pnb, pnc, pnd, pne]
      refine wpAnyH_all (rs := [1, 6]) (by kernel_rfl) (by simp) (fun jj hjj => ?_)
      simp only [List.mem_cons, List.not_mem_nil, or_false] at hjj
      rcases hjj with rfl | rfl
      refine wpO_call (oi := ⟨some 114,.call { callee := .value (.func 158), args := #[.tmp 113, .const (Value.int IntKind.i64 1)], argTypes := #[38, 3] },38,"ref.go:132",#[⟨0,.data⟩],none⟩) rfl (by rfl) (hls _ hS) ?_ ?_
      ·(go_simp; try rfl)
      rintro e w' ⟨uL, rfl, hrL, hbx⟩
      refine ⟨_, rfl, hS.trans (hbx.mono hS.size), ?_⟩
      replace hS := hS.trans (hbx.mono hS.size)
      try (have KB := KB.keep hbx)
      have hX := hS.size
      try simp only [pna, pnb, pnc, pnd, pne]
      refine wpH_op 6 (oi := ⟨some 119,.convert 130 9 (.tmp 118),9,"ref.go:132",#[⟨5,.data⟩],none⟩) rfl (by kernel_rfl) (by rfl) ?_
      refine wp_loads (.string ⟨List.toArray ([UInt8.ofNat i])⟩) (by have c := KB.cell 0; go_simp; try rfl) ?_
      have hX := hS.size
      refine ⟨hS, ?_⟩
      try simp only [pna, pnb, pnc, pnd, pne]
      refine wpH_load 7 (.string ⟨List.toArray (p ++ [UInt8.ofNat i])⟩) (oi := ⟨some 120,.binOp BinOp.add 9 (.tmp 115) (.tmp 119) 9,9,"ref.go:132",#[⟨2,.data⟩, ⟨6,.data⟩],none⟩) rfl (by kernel_rfl) (by kernel_rfl) (by kernel_rfl) (by rfl) hS (fun _ _ _ h => h) (fun w' hb2 => (by go_simp)) ?_
      try simp only [pna, pnb, pnc, pnd, pne]
      refine wpH_call 8 (oi := ⟨some 121,.call { callee := .value (.func 134), args := #[.tmp 114, .tmp 120], argTypes := #[38, 9] },169,"ref.go:132",#[⟨1,.data⟩, ⟨7,.data⟩, ⟨1,.chain⟩],none⟩) rfl (by kernel_rfl) (by rfl) (hci _ _ hrL.il) ?_ ?_
      ·(go_simp; try rfl)
      rintro e w' ⟨uG, rfl, hrG, hbx⟩
      refine ⟨_, rfl, hS.trans (hbx.mono hS.size), ?_⟩
      replace hS := hS.trans (hbx.mono hS.size)
      try simp only [pna, pnb, pnc, pnd, pne]
      (refine hP 9 ?_ ⟨some 13, .assign (.tmp 121), 169, "", #[], none⟩ hS ?_ ?_; rotate_left; focus (intro w; go_simp; try with_reducible rfl))
      try simp only [pna, pnb, pnc, pnd, pne]
      refine wpAnyH_done (by kernel_rfl) ?_ _
      rotate_left
      refine wpO_op (oi := ⟨some 119,.convert 130 9 (.tmp 118),9,"ref.go:132",#[⟨5,.data⟩],none⟩) rfl (by rfl) ?_
      refine wp_loads (.string ⟨List.toArray ([UInt8.ofNat i])⟩) (by have c := KB.cell 0; go_simp; try rfl) ?_
      have hX := hS.size
      refine ⟨hS, ?_⟩
      try simp only [pna, pnb, pnc, pnd, pne]
      refine wpH_load 7 (.string ⟨List.toArray (p ++ [UInt8.ofNat i])⟩) (oi := ⟨some 120,.binOp BinOp.add 9 (.tmp 115) (.tmp 119) 9,9,"ref.go:132",#[⟨2,.data⟩, ⟨6,.data⟩],none⟩) rfl (by kernel_rfl) (by kernel_rfl) (by kernel_rfl) (by rfl) hS (fun _ _ _ h => h) (fun w' hb2 => (by go_simp)) ?_
      try simp only [pna, pnb, pnc, pnd, pne]
      refine wpH_call 1 (oi := ⟨some 114,.call { callee := .value (.func 158), args := #[.tmp 113, .const (Value.int IntKind.i64 1)], argTypes := #[38, 3] },38,"ref.go:132",#[⟨0,.data⟩],none⟩) rfl (by kernel_rfl) (by rfl) (hls _ hS) ?_ ?_
      ·(go_simp; try rfl)
      rintro e w' ⟨uL, rfl, hrL, hbx⟩
      refine ⟨_, rfl, hS.trans (hbx.mono hS.size), ?_⟩
      replace hS := hS.trans (hbx.mono hS.size)
      try (have KB := KB.keep hbx)
      have hX := hS.size
      try simp only [pna, pnb, pnc, pnd, pne]
      refine wpH_call 8 (oi := ⟨some 121,.call { callee := .value (.func 134), args := #[.tmp 114, .tmp 120], argTypes := #[38, 9] },169,"ref.go:132",#[⟨1,.data⟩, ⟨7,.data⟩, ⟨1,.chain⟩],none⟩) rfl (by kernel_rfl) (by rfl) (hci _ _ hrL.il) ?_ ?_
      ·(go_simp; try rfl)
      rintro e w' ⟨uG, rfl, hrG, hbx⟩
      refine ⟨_, rfl, hS.trans (hbx.mono hS.size), ?_⟩
      replace hS := hS.trans (hbx.mono hS.size)
      try simp only [pna, pnb, pnc, pnd, pne]
      (refine hP 9 ?_ ⟨some 13, .assign (.tmp 121), 169, "", #[], none⟩ hS ?_ ?_; rotate_left; focus (intro w; go_simp; try with_reducible rfl))
      try simp only [pna, pnb, pnc, pnd, pne]
      refine wpAnyH_done (by kernel_rfl) ?_ _
      rotate_left
      rotate_left
      all_goals
       have hbw := hbq.trans (hS.mono hbq.size)
       have hG := Lib.hid (hrG.low (show w1.heap.size + 1 ≤ _ from by have h1 := HN.out.lt; have h2 := hbq.size; have h3 : wq.drew.heap.size = wq.heap.size := rfl; omega))
       obtain ⟨ga, gc, rfl⟩ := hrG.sp.form
       have N2 := HN.out.keep hbw
       have HS2 := Lib.hid (HS.out.keep hbw)
       have hb2 := hb.trans (hbw.mono hb.size)
       obtain ⟨w2, hw2⟩ := Below.name hS
       subst hw2
       have HFE := Lib.hid (HQ.out.few (i + 1) (by have := HLT.out; omega))
       have HEX : Hid ((List.range (i + 1)).flatMap f = (List.range i).flatMap f ++ f i) := Lib.hid (by rw [List.range_succ, List.flatMap_append]; simp)
       have hq1 : w1.heap.size + 1 ≤ w2.heap.size := by have := N2.lt; omega
       have HB2 := Lib.hid hb2
       have HN2 := Lib.hid N2
       have hlt := HLT.out
       clear hrG hrL KB hbw hls hci HR2 hbx hS hb2
       have hG1 := hG.out
       obtain ⟨ln, hln⟩ : ∃ n, n = (f i).length := ⟨_, rfl⟩
       rw [← hln] at hG1 ⊢
       have HG := Lib.hid hG1
       have HLN := Lib.hid hln
       clear hG hG1 hln
       by_cases hfi : ln = 0
       case pos =>
        have d1 : decide ((0 : Int) < (ln : Int)) = false := by rw [decide_eq_false_iff_not]; omega
        have d2 : decide (0 < ln) = false := by rw [decide_eq_false_iff_not]; omega
        have HKT := Lib.hid (kidTo_same f i (List.length_eq_zero_iff.1 (HLN.out.symm.trans hfi)))
        clear hfi
        go_wp2_with (first
         | (at_builtin; refine wpList_appSp rfl (.tmp 132) (.tmp 133) rfl (w1.heap.size + 1) _ _ rfl HS2.out _ (f i) rfl HG.out.sp (by have := HFE.out; rw [HEX.out, List.length_append] at this; omega) hq1 ?_; intro v6 w6 hr6 hb6)
         | fail)
        exact ⟨⟨i + 1, by go_num, by omega, Lib.hid (by rw [HEX.out]; exact hr6), Lib.hid (by rw [← HKT.out]; exact HN2.out.of_block (hb6.block _ (by omega)) hb6.size), HB2.out.trans (hb6.mono (by have := HB2.out.size; omega))⟩, by simp [intOf]; omega⟩
       case neg =>
        have d1 : decide ((0 : Int) < (ln : Int)) = true := by rw [decide_eq_true_eq]; omega
        have d2 : decide (0 < ln) = true := by rw [decide_eq_true_eq]; omega
        have d3 : (0 : Int) < (ln : Int) := by omega
        have hi16 : (i : Int) < 16 := by omega
        obtain ⟨gg, go, rfl, hgg, hgc⟩   := HG.out.sp.head (fun e => hfi (by rw [HLN.out, e]; rfl))
        have ck := blk_kid HN2.out i hlt
        have cf := HN2.out.froz (3 + i)
        have hql := HN2.out.lt
        clear hfi
        go_wp2_with (first
         | (at_builtin; refine wpList_appSp rfl (.tmp 132) (.tmp 133) rfl (w1.heap.size + 1) _ _ rfl (HS2.out.mod ((Mod.refl [w1.heap.size] w2).setCell (.inl (by simp)) _) (by simp)) _ (f i) rfl (HG.out.mod ((Mod.refl [w1.heap.size] w2).setCell (.inl (by simp)) _) (by simp)).sp (by have := HFE.out; rw [HEX.out, List.length_append] at this; omega) (by simpa using hq1) ?_; intro v6 w6 hr6 hb6)
         | fail)
        have N3 := HN2.out.set (3 + i) (.string ⟨List.toArray ((headS (f i)))⟩)
        rw [nd_setk _ _ _ _ i hlt, kidTo_upd] at N3
        have hb3 : Below w1.heap.size w1 (w2.setCell ⟨w1.heap.size, 3 + i, none⟩ (.string ⟨List.toArray ((headS (f i)))⟩)) := Below.mod HB2.out ((Mod.refl [w1.heap.size] w2).setCell (.inl (by simp)) _) HB2.out.size (by simp)
        exact ⟨⟨i + 1, by go_num, by omega, Lib.hid (by rw [HEX.out]; exact hr6), Lib.hid (N3.of_block (hb6.block _ (by omega)) hb6.size), hb3.trans (hb6.mono (by omega))⟩, by simp [intOf]; omega⟩
   ·have i1 : decide ((i : Int) < 16) = false := by simp; omega
    have e16 : i = 16 := by omega
    subst e16
    have N2 := HN.out
    rw [kidTo_all] at N2
    have HX := Lib.hid hb
    have HF := Lib.hid (HQ.out.few 16 (by omega))
    have HS3 := Lib.hid HS.out.sp
    clear HS HN
    go_wp2_with (first
     | (refine wpList_rowLoad row_node rfl (.tmp 8) rfl rfl (vs := nd 3 [] V (fun i => headS (f i))) (nd_len _ _ _ _) N2 ?_)
     | fail)
    refine (spot_any p 3 [] V (fun i => headS (f i)) HQ.out.fin (by simp) _ ((List.range 16).flatMap f) (by have := HF.out; omega) _ HS3.out).mono ?_
    rintro e w6 ⟨u6, rfl, hr6, hb6⟩
    go_wp2_with fail
    go_ret
    have hbw := HX.out
    have hs := HQB.out
    have hsz := hs.size
    have hsb := hbw.size
    exact ⟨u6, rfl, hr6.low (by omega), (hs.trans (hbw.mono hsz)).trans (hb6.mono (by omega))⟩
theorem rgrown_any : ∀ n, n ≤ 17 → GrOk n
 | 0, _ => fun l p hG _ _ v w hv => by
  have : l = [] := by
   rcases l with _ | ⟨x, r⟩
   ·rfl
   ·have := (hG.2 x (by simp)).2.1; omega
  subst this
  exact rgrown_nil p v w hv
 | n + 1, hn => fun l p hG hl hp v w hv => by
  by_cases h0 : l.length = 0
  ·have : l = [] := List.length_eq_zero_iff.1 h0
   subst this
   rw [gr_nil]
   exact rgrown_nil p v w hv
  by_cases h1 : l.length = 1
  ·exact rgrown_one n l p hn hG h1 v w hv
  have ih := rgrown_any n (by omega)
  by_cases hc : 0 < comI l
  ·exact rgrown_ext n ih l p hn hG (by omega) hl hp hc v w hv
  ·obtain ⟨hq, hgr⟩ := brq w n ih l p hn hG (by omega) hl hp (by omega)
   rw [hgr]
   exact rgrown_br l p _ (by omega) hl (by omega) (by omega) (fun i hi => by have := (hG.2 _ (it_mem (l := l) hi)).2.1; have e : (l.getD i ([], [])).1.length = (l.getD i i0).1.length := rfl; omega) v w hv hq
end Go.Proofs.YthkpmlfaddlieaaGreatDoor
namespace Go.Proofs.YthkpmlfaddlieaaGreatDoor
namespace Pl
def behF : Bs → Option Bs
 | [] => none
 | c :: r => match behF r with
  | some x => some (c :: x)
  | none => if c = 255 then none else some [c + 1]
def behP (k : Bs) : Bs := if 8 < k.length then [] else if k.length < 8 then k ++ [0] else (behF k).getD []
def wI (f e : Bs) : List It → List It
 | [] => []
 | x :: r => if x.1 < f then wI f e r else if e ≠ [] ∧ ¬ x.1 < e then [] else x :: wI f e r
theorem lt_of_not {a b : Bs} (h : ¬ a < b) (hn : a ≠ b) : b < a := by
 rcases Classical.em (b < a) with h1 | h1
 ·exact h1
 ·exact absurd (List.le_antisymm (List.not_lt.1 h1) (List.not_lt.1 h)) hn
def keyB (k : Bs) : Bool := decide (1 ≤ k.length) && decide (k.length ≤ 8)
def hasK (k : Bs) (l : List It) : Bool := l.any fun x => x.1 == k
def putE (l : List It) (k v : Bs) : Int := if keyB k = false then 1 else if v.length < 1 ∨ 32 < v.length ∨ (hasK k l = false ∧ 1024 ≤ l.length) then 2 else 0
end Pl
end Go.Proofs.YthkpmlfaddlieaaGreatDoor
namespace Go.Proofs.YthkpmlfaddlieaaGreatDoor
open Go.RowKit Go.Shelf Pl
namespace Pl
def GoodR (l : List It) : Prop := Rise l ∧ l.length ≤ 1024 ∧ ∀ x ∈ l, x.1.length ≤ 8 ∧ 1 ≤ x.2.length ∧ x.2.length ≤ 32
def rootI (l : List It) : Bs := headS (gr 17 (pathsI l) [])
theorem GoodR.paths {l : List It} (h : GoodR l) : GoodG 17 (pathsI l) := by
 refine ⟨?_, fun x hx => ?_⟩
 ·unfold Rise pathsI
  rw [List.pairwise_map]
  exact h.1.imp fun h => (ofP_lt _ _).2 h
 ·simp only [pathsI, List.mem_map] at hx
  obtain ⟨y, hy, rfl⟩ := hx
  obtain ⟨h1, h2, h3⟩ := h.2.2 y hy
  exact ⟨ofP_fit _, by rw [ofP_len]; omega, h2, h3⟩
theorem rootI_nil : rootI [] = [] := rfl
theorem paths_take (l : List It) (i : Nat) (hi : i < l.length) : pathsI (l.take (i + 1)) = pathsI (l.take i) ++ [(ofP (l.getD i ([], [])).1, (l.getD i ([], [])).2)] := by
 unfold pathsI
 rw [takeI l i hi, List.map_append]
 rfl
end Pl
theorem rspots_any (v : Value) (l : List It) (hG : GoodR l) (w : World) (hv : IL w v l) : Calls Tryz.prog 100 #[v] w (SpotO w (gr 17 (pathsI l) [])) := by
 obtain ⟨va, vc, rfl⟩ := hv.form
 have hl := hG.2.1
 have HG := Lib.hid hG
 have HV := Lib.hid hv
 clear hG hv
 go_enter Tryz.func100, Tryz.ntmps100
 go_wp2_with fail
 go_loopw [3, 4] (fun s3 s4 wr => ∃ i : Nat, s4 = .int .i64 i ∧ i ≤ l.length ∧ Hid (IRow wr w.heap.size s3 (pathsI (l.take i))) ∧ Below w.heap.size w wr) (fun _ s4 _ => l.length - (intOf s4).toNat)
 case atStart => exact ⟨0, rfl, Nat.zero_le _, Lib.hid (by simpa [pathsI] using IRow.nil _ _), Below.refl _ _⟩
 case round =>
  obtain ⟨i, rfl, hi, HR, hb⟩ := hrel
  obtain ⟨wr, hwr⟩ := Below.name hb
  subst hwr
  by_cases hlt : i < l.length
  ·have i1 : decide ((i : Int) < (l.length : Int)) = true := by simp; omega
   have i2 : (i : Int) < (l.length : Int) := by omega
   obtain ⟨g, off, e1, hg, c1, c2⟩ := HV.out.at i hlt
   have hm : l.getD i ([], []) ∈ l := it_mem hlt
   have hk8 := (HG.out.2.2 _ hm).1
   have HT := Lib.hid (paths_take l i hlt)
   have HLL : Hid ((pathsI (l.take i)).length = i) := Lib.hid (by simp [pathsI]; omega)
   generalize l.getD i ([], []) = x at *
   obtain ⟨xk, xv⟩ := x
   simp only at c1 c2 hk8 HT
   subst e1
   have HLT := Lib.hid hlt
   have HB := Lib.hid hb
   clear hm hlt hi hb
   have hof := fun W => rof_any xk (by omega) W
   go_wp2_with fail
   have hw0 := HB.out.size
   refine wpH_startB (w.heap.size) (by kernel_rfl) (fun hS => ?_)
   have hK : Below wr.heap.size wr wr.drew := (Below.refl _ _).drew
   (refine hP 0 ?_ ⟨some 11, .move (.tmp 3), 38, "", #[], none⟩ hS ?_ ?_; rotate_left; focus (intro w; go_simp; try with_reducible rfl))
   try simp only [pna, pnb, pnc, pnd, pne]
   (refine hP 1 ?_ ⟨some 12, .move (.tmp 0), 38, "", #[], none⟩ hS ?_ ?_; rotate_left; focus (intro w; go_simp; try with_reducible rfl))
   try simp only [pna, pnb, pnc, pnd, pne]
   (refine hP 2 ?_ ⟨some 13, .move (.tmp 4), 3, "", #[], none⟩ hS ?_ ?_; rotate_left; focus (intro w; go_simp; try with_reducible rfl))
   try simp only [pna, pnb, pnc, pnd, pne]
   refine wpH_load 3 (.pointer (some ⟨g, off + i * 2, none⟩)) (oi := ⟨some 14,.indexAddr 38 (.tmp 12) (.tmp 13),0,"ref.go:154",#[⟨1,.data⟩, ⟨2,.data⟩],none⟩) rfl (by kernel_rfl) (by kernel_rfl) (by kernel_rfl) (by rfl) hS (fun _ _ _ h => h) (fun w' hb2 => (by go_simp)) ?_
   try simp only [pna, pnb, pnc, pnd, pne]
   (refine hP 4 ?_ ⟨some 15, .fieldAddr 203 (.tmp 14) 0, 0, "", #[], none⟩ hS ?_ ?_; rotate_left; focus (intro w; go_simp; try with_reducible rfl))
   try simp only [pna, pnb, pnc, pnd, pne]
   refine wpH_load 5 (.string ⟨xk.toArray⟩) (oi := ⟨some 16,.load 9 (.tmp 15),9,"ref.go:154",#[⟨4,.data⟩],none⟩) rfl (by kernel_rfl) (by kernel_rfl) (by kernel_rfl) (by rfl) hS (fun _ _ _ h => h) (fun w' hb2 => (by have c := ((HB.out.trans hb2).cell (p := ⟨g, off + i * 2, none⟩) hg).trans c1; go_simp; try rfl)) ?_
   try simp only [pna, pnb, pnc, pnd, pne]
   (refine hP 7 ?_ ⟨some 18, .move (.tmp 0), 38, "", #[], none⟩ hS ?_ ?_; rotate_left; focus (intro w; go_simp; try with_reducible rfl))
   try simp only [pna, pnb, pnc, pnd, pne]
   (refine hP 8 ?_ ⟨some 19, .move (.tmp 4), 3, "", #[], none⟩ hS ?_ ?_; rotate_left; focus (intro w; go_simp; try with_reducible rfl))
   try simp only [pna, pnb, pnc, pnd, pne]
   refine wpH_load 9 (.pointer (some ⟨g, off + i * 2, none⟩)) (oi := ⟨some 20,.indexAddr 38 (.tmp 18) (.tmp 19),0,"ref.go:154",#[⟨7,.data⟩, ⟨8,.data⟩],none⟩) rfl (by kernel_rfl) (by kernel_rfl) (by kernel_rfl) (by rfl) hS (fun _ _ _ h => h) (fun w' hb2 => (by go_simp)) ?_
   try simp only [pna, pnb, pnc, pnd, pne]
   (refine hP 10 ?_ ⟨some 21, .fieldAddr 203 (.tmp 20) 1, 0, "", #[], none⟩ hS ?_ ?_; rotate_left; focus (intro w; go_simp; try with_reducible rfl))
   try simp only [pna, pnb, pnc, pnd, pne]
   refine wpH_load 11 (.string ⟨xv.toArray⟩) (oi := ⟨some 22,.load 9 (.tmp 21),9,"ref.go:154",#[⟨10,.data⟩],none⟩) rfl (by kernel_rfl) (by kernel_rfl) (by kernel_rfl) (by rfl) hS (fun _ _ _ h => h) (fun w' hb2 => (by have c := ((HB.out.trans hb2).cell (p := ⟨g, off + i * 2 + 1, none⟩) hg).trans c2; go_simp; try rfl)) ?_
   try simp only [pna, pnb, pnc, pnd, pne]
   refine wpH_call 6 (oi := ⟨some 17,.call { callee := .value (.func 133), args := #[.tmp 16], argTypes := #[9] },9,"ref.go:154",#[⟨5,.data⟩],none⟩) rfl (by kernel_rfl) (by rfl) (hof _) ?_ ?_
   ·(go_simp; try rfl)
   rintro e w' ⟨rfl, hbx⟩
   refine ⟨_, rfl, hS.trans (hbx.mono (by have := hK.size; omega)), ?_⟩
   replace hS := hS.trans (hbx.mono (by have := hK.size; omega))
   have hK := hK.trans (hbx.mono hK.size)
   try simp only [pna, pnb, pnc, pnd, pne]
   (refine hP 12 ?_ ⟨some 23, .build 203 #[(0, .tmp 17), (1, .tmp 22)], 203, "", #[], none⟩ hS ?_ ?_; rotate_left; focus (intro w; go_simp; try with_reducible rfl))
   try simp only [pna, pnb, pnc, pnd, pne]
   refine wpH_op 13 (oi := ⟨some 24,.buildSlice 38 1 #[(0, .tmp 23)],38,"ref.go:154",#[⟨12,.data⟩],none⟩) rfl (by kernel_rfl) (by rfl) ?_
   refine wp_newK 203 #[.string ⟨List.toArray ((ofP xk))⟩, .string ⟨xv.toArray⟩] (fun k => .slice (some ⟨k, 0, none⟩) 1 1) (fun W2 => (by kernel_rfl)) ?_
   intro k3 w3 hk3 hh3 hl3 hb3
   have hS3 := hS.trans (hb3.mono (by have := hK.size; omega))
   have hK := hK.trans (hb3.mono hK.size)
   refine ⟨hS3, ?_⟩
   replace hS := hS3
   have KB := Blk.of_heap hh3 hl3
   try simp only [pna, pnb, pnc, pnd, pne]
   refine wpH_op 14 (oi := ⟨some 25,.call { callee := .builtin Builtin.append, args := #[.tmp 11, .tmp 24], argTypes := #[38, 38] },38,"ref.go:154",#[⟨0,.data⟩, ⟨13,.data⟩, ⟨6,.chain⟩],none⟩) rfl (by kernel_rfl) (by rfl) ?_
   refine wp_appI (.tmp 11) (.tmp 24) rfl w.heap.size _ (pathsI (l.take i)) rfl (HR.out.keep hK) k3 0 1 1 [(ofP xk, xv)] rfl rfl (fun j hj => by have : j = 0 := (by simpa using hj); subst this; exact ⟨KB.cell 0, KB.cell 1⟩) (by rw [HLL.out]; omega) (by have := hK.size; omega) ?_
   intro v5 w5 hr5 hb5
   refine ⟨hS.trans hb5, ?_⟩
   replace hS := hS.trans hb5
   try simp only [pna, pnb, pnc, pnd, pne]
   (refine hP 15 ?_ ⟨some 3, .assign (.tmp 25), 38, "", #[], none⟩ hS ?_ ?_; rotate_left; focus (intro w; go_simp; try with_reducible rfl))
   try simp only [pna, pnb, pnc, pnd, pne]
   refine wpAnyH_done (by kernel_rfl) ?_ _
   clear hK
   go_wp2_with fail
   exact ⟨⟨i + 1, by go_num, HLT.out, Lib.hid (by rw [HT.out]; exact hr5), HB.out.trans hS⟩, by have := HLT.out; simp [intOf]; omega⟩
  ·have e1 : i = l.length := by omega
   subst e1
   have i1 : decide ((l.length : Int) < (l.length : Int)) = false := by simp
   have HA' : Hid (pathsI (l.take l.length) = pathsI l) := Lib.hid (by rw [List.take_length])
   have hq := fun W (hb2 : Below wr.heap.size wr W) => rgrown_any 17 (by omega) (pathsI l) [] HG.out.paths (by simp [pathsI]; omega) (by simp) _ W ((HA'.out ▸ HR.out).il.keep hb2)
   have HB := Lib.hid hb
   go_wp2_with fail
   refine (hq _ (Below.refl _ _)).mono ?_
   rintro e w6 ⟨u6, rfl, hr6, hb6⟩
   go_wp2_with fail
   go_ret
   exact ⟨u6, rfl, hr6.low HB.out.size, HB.out.trans (hb6.mono HB.out.size)⟩
theorem rroot_any (v : Value) (l : List It) (hG : GoodR l) (w : World) (hv : IL w v l) : Calls Tryz.prog 67 #[v] w fun e w' => e = .returned (.string ⟨List.toArray (rootI l)⟩) ∧ Below w.heap.size w w' := by
 have hs := rspots_any v l hG w hv
 have hri : rootI l = headS (gr 17 (pathsI l) []) := rfl
 generalize gr 17 (pathsI l) [] = G at *
 have HRI := Lib.hid hri
 clear hri hv
 go_enter Tryz.func67, Tryz.ntmps67
 go_wp2_with fail
 refine hs.mono ?_
 rintro e w1 ⟨u1, rfl, hr1, hb1⟩
 have hG1 := hr1.sp
 obtain ⟨ga, gc, rfl⟩ := hG1.form
 obtain ⟨ln, hln⟩ : ∃ n, n = G.length := ⟨_, rfl⟩
 rw [← hln] at hG1 ⊢
 by_cases h0 : ln = 0
 ·have hg0 : G = [] := List.length_eq_zero_iff.1 (by omega)
  have HZ : Hid (rootI l = []) := Lib.hid (by rw [HRI.out, hg0]; rfl)
  subst h0
  clear hs hr1 hG1 hln hg0
  go_wp2_with fail
  go_ret
  exact ⟨by rw [HZ.out]; rfl, hb1⟩
 ·obtain ⟨g, off, rfl, hg, hc⟩ := hG1.head (fun e => h0 (by rw [hln, e]; rfl))
  have HC : Hid (w1.cell? ⟨g, off + 2, none⟩ = some (.string ⟨List.toArray (rootI l)⟩)) := Lib.hid (by rw [HRI.out]; exact hc)
  have d1 : ((ln : Int) == 0) = false := by rw [beq_eq_false_iff_ne]; omega
  have d2 : (0 : Int) < (ln : Int) := by omega
  generalize hR : rootI l = R at HC
  have HRR := Lib.hid hR
  clear hR
  have c := HC.out
  clear hs hr1 hG1 hln h0 hc
  go_wp2_with fail
  go_ret
  exact ⟨by rw [HRR.out]; rfl, hb1⟩
end Go.Proofs.YthkpmlfaddlieaaGreatDoor
