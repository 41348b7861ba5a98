/- RTrim. -/
import Derived.Test.YthgjdaomcpinaaaGreatDoorMp37
set_option linter.unnecessarySimpa false
set_option linter.unusedSimpArgs false
set_option linter.unusedVariables false
set_option maxRecDepth 100000
set_option maxHeartbeats 32000000
namespace Go.Proofs.YthgjdaomcpinaaaGreatDoor
open Go.RowKit Go.WideMaps Go.Maps Go.Sort Go.Shelf Pl
theorem ZRow.empty (w : World) : ZRow (w.alloc (.cells #[] 3)) w.heap.size (.slice (some ⟨w.heap.size, 0, none⟩) 0 0) [] :=
 ⟨rfl, .inr ⟨w.heap.size, 0, #[], rfl, Nat.le_refl _, by first | (rw [World.alloc_eq]; simp) | (show (w.heap.push _)[w.heap.size]? = _; simp) | rfl, Nat.le_refl _, by unfold maxLen; omega, rfl, rfl⟩⟩
section
variable {ops : Array Oper} {o : Oper} {rest : List Oper} {a : Act} {w : World} {Q : Exit → Act → World → Prop}
theorem wpList_appZs (hgd : o.guard = none) (s x : Operand)
  (ho : o.op = .call { callee := .builtin .append, args := #[s, x], argTypes := #[51, 51] })
  (base : Nat) (v : Value) (l : List Int) (hs : a.eval s = v) (hown : ZRow w base v l)
  (u : Value) (news : List Int) (hx : a.eval x = u) (hsrc : IS w u news)
  (hlen : l.length + news.length ≤ 1000000) (hbase : base ≤ w.heap.size)
  (h : ∀ v' w', ZRow w' base v' (l ++ news) → Below base w w' → wpList Tryz.prog ops Q rest (a.put o.dst v') w') : wpList Tryz.prog ops Q (o :: rest) a w := by
 obtain ⟨au, cu, hu, h1, h2, h3⟩ := hsrc
 by_cases hn : news = []
 ·subst hn
  obtain ⟨i0, hi, hz0, hz1, hz2⟩ := info_parts infoZ
  obtain ⟨va, vc, hv⟩ := hown.form
  have hle : l.length ≤ vc := by
   rcases hown.cells with ⟨e, e2⟩ | ⟨g, cap, e, _, _, h4, _⟩
   ·subst e2; simp
   ·rw [hv] at e; injection e with _ _ e; subst e; exact h4
  have hS : Src Tryz.prog i0.size 51 u 0 [] w := by
   subst hu
   cases au with
   | none => exact Src.ofNil w Tryz.underlying51 cu
   | some ad => exact Src.ofSlice w Tryz.underlying51 ad 0 cu [] (by simp) (fun j u h => by simp at h) (fun _ h => by cases h)
  have hr := run_append_nothing (P := Tryz.prog) w 51 51 o.type 3 i0 Tryz.underlying51 hi va l.length vc hle u hS
  refine wpList_plain hgd fun K hK => ?_
  unfold Oper.wp execOp
  simp only [ho, resolve, invoke, builtin, Sem.run_bind, Sem.run_pure, Result.andThen_ok, List.map_toArray, List.map_cons, List.map_nil, hs, hx, hv, hr]
  exact hK _ _ (h _ w (by rw [List.append_nil, ← hv]; exact hown) (Below.refl _ _))
 ·obtain ⟨g, off, rfl, hg, hc⟩ := h3 hn
  exact wpList_appZ hgd s x ho base v l hs hown g off news.length cu news (hx.trans hu) rfl hc (by omega) hbase h
end
def rtrimG (l : List Tr) (sp now most : Int) : Nat → Nat → List Int → List Int
 | 0, _, g => g
 | i + 1, st, g => match l[i]? with
  | some t => if i + 1 = l.length ∨ ((st : Int) < most ∧ staleR sp now t = false) then rtrimG l sp now most i (st + 1) g else rtrimG l sp now most i st (t.head.height :: g)
  | none => g
theorem rtrimG_stay {l : List Tr} {sp now most : Int} {i st : Nat} {g : List Int} {t : Tr} (ht : l[i]? = some t) (h : i + 1 = l.length ∨ ((st : Int) < most ∧ staleR sp now t = false)) : rtrimG l sp now most (i + 1) st g = rtrimG l sp now most i (st + 1) g := by rw [rtrimG, ht]; exact if_pos h
theorem rtrimG_goes {l : List Tr} {sp now most : Int} {i st : Nat} {g : List Int} {t : Tr} (ht : l[i]? = some t) (h1 : i + 1 ≠ l.length) (h2 : (st : Int) < most → staleR sp now t = true) : rtrimG l sp now most (i + 1) st g = rtrimG l sp now most i st (t.head.height :: g) := by
 rw [rtrimG, ht]
 refine if_neg ?_
 rintro (h | ⟨h, h3⟩)
 ·exact h1 h
 ·rw [h2 h] at h3; cases h3
theorem res_st3 {fn : Func} {a b c : Nat} (h : fn.results = #[.cell a 76, .tmp b, .tmp c]) (tmps : Array Value) (W : World) (lv : Value) (sp : Int) (d : Dk) (br : Bool) (k : Nat) (hp : tmps.getD a undef = .pointer (some ⟨k, 0, none⟩)) (hB : Blk W k (stcs lv sp d br).toArray) :
  (results fn tmps).run Tryz.prog W = .ok (.tuple #[stv lv sp d br, tmps.getD b undef, tmps.getD c undef]) W := by
 unfold results
 rw [h]
 rw [Array.getD_eq_getD_getElem?] at hp
 have hl := row_loadVar row_st W rfl hB
 simp [hp, asAddr, hl, Sem.run_bind]
def rtrimN (c : Int) (n : Nat) : Int := if c = 0 then n else 0
theorem rtrim_any (av : List Nat) (lv : Value) (l : List Tr) (sp most now : Int) (d : Dk) (b : Bool) (hl : l.length ≤ 1000) (hsp : 0 ≤ sp ∧ sp ≤ 1099511627776) (hnow : -9223372036854775808 ≤ now ∧ now ≤ 9223372036854775807) (hmo : 1 ≤ most ∧ most ≤ 9223372036854775807)
  (hcl : ∀ t ∈ l, 0 ≤ t.head.height ∧ t.head.height ≤ 9223372036854775807) (hm : (∃ l', rdropG (rtrimG l sp now most l.length 0 []) l = some l') → mayR (goesT (rtrimG l sp now most l.length 0 [])) = true)
  (hf : -9223372036854775807 ≤ d.fuse ∧ d.fuse ≤ 9223372036854775807) (hrm : 0 ≤ d.room ∧ d.room ≤ 1048576) (hsl : d.s.length ≤ 1048576) (w : World) (hlv : TLA w av lv l) (hav : ∀ x ∈ av, x < w.heap.size) :
  Calls Tryz.prog 40 #[stv lv sp d b, .int .i64 most, .int .i64 now] w fun e w' => ∃ v', e = .returned (.tuple #[stv v' sp (rdropR d b l (rtrimG l sp now most l.length 0 [])).2.1 (rdropR d b l (rtrimG l sp now most l.length 0 [])).2.2.1, .int .i64 (rtrimN (rdropR d b l (rtrimG l sp now most l.length 0 [])).2.2.2 (rtrimG l sp now most l.length 0 []).length), .int .i64 ((rdropR d b l (rtrimG l sp now most l.length 0 [])).2.2.2)]) ∧ TLA w' av v' (rdropR d b l (rtrimG l sp now most l.length 0 [])).1 ∧ Below w.heap.size w w' := by
 obtain ⟨G, hG⟩ : ∃ G, G = rtrimG l sp now most l.length 0 [] := ⟨_, rfl⟩
 have HG0 : Hid (G = rtrimG l sp now most l.length 0 []) := Lib.hid hG
 rw [← hG] at hm ⊢
 have HQD : Hid (∀ W v, Below w.heap.size w W → G.length ≤ 1000 → IS W v G → (∀ x ∈ (w.heap.size + 1) :: av, x < W.heap.size) → Calls Tryz.prog 39 #[stv lv sp d b, v] W fun e w' => ∃ v', e = .returned (.tuple #[stv v' sp (rdropR d b l G).2.1 (rdropR d b l G).2.2.1, .int .i64 ((rdropR d b l G).2.2.2)]) ∧ TLA w' ((w.heap.size + 1) :: av) v' (rdropR d b l G).1 ∧ Below W.heap.size W w') :=
  Lib.hid (fun W v hb hgl hi hav2 => rdrop_any ((w.heap.size + 1) :: av) lv l sp d b v G hl hgl hcl hm hf hrm hsl W ((hlv.sub (fun x hx => by
   rcases List.mem_cons.1 hx with rfl | hx
   ·exact .inr (by omega)
   ·exact .inl hx)).keep hb) hi hav2)
 obtain ⟨la, lc, rfl⟩ := hlv.form
 obtain ⟨s, safe, room, fuse, down⟩ := d
 obtain ⟨B1, B2, hb2⟩ := two_st w (.slice la l.length lc) sp ⟨s, safe, room, fuse, down⟩ b
 obtain ⟨W2, hW2⟩ : ∃ W2, W2 = ((w.alloc (.cells (stcs (.slice la l.length lc) sp ⟨s, safe, room, fuse, down⟩ b).toArray 76)).alloc (.cells zst.toArray 76)) := ⟨_, rfl⟩
 rw [← hW2] at B1 B2 hb2
 have HW := Lib.hid hW2
 have hws : W2.heap.size = w.heap.size + 2 := by rw [hW2]; simp
 obtain ⟨m1, m2, m3⟩ := id B1
 have m10 := m1 0
 have HB1 := Lib.hid B1
 have HB2 := Lib.hid B2
 have HLV := Lib.hid hlv
 have HAV := Lib.hid hav
 have d0 : decide (most < 1) = false := by simp; omega
 have wl : IntKind.i64.wrap ((l.length : Int) - 1) = (l.length : Int) - 1 := by rw [IntKind.wrap_i64]; omega
 generalize rdropR ⟨s, safe, room, fuse, down⟩ b l G = R at *
 have HCL := Lib.hid hcl
 clear hW2 B1 B2 hlv hav hm hf hrm hsl hG hcl
 go_enter Tryz.func40, Tryz.ntmps40
 go_wp2_with fail
 rw [← HW.out]
 go_loopw [9, 10, 11] (fun s9 s10 s11 wr => ∃ (i st : Nat) (x : Int) (g : List Int), x + 1 = i ∧ i ≤ l.length ∧ s11 = .int .i64 x ∧ s10 = .int .i64 st ∧ IS wr s9 g ∧ st + g.length + i = l.length ∧ Hid (G = rtrimG l sp now most i st g) ∧ Below W2.heap.size W2 wr) (fun _ _ s11 _ => (intOf s11 + 1).toNat)
 case atStart =>
  exact ⟨l.length, 0, (l.length : Int) - 1, [], by omega, Nat.le_refl _, by go_num, rfl, ⟨none, 0, rfl, Nat.le_refl _, by unfold maxLen; omega, fun h => absurd rfl h⟩, by simp, HG0, Below.refl _ _⟩
 case round =>
  obtain ⟨i, st, x, g, hx, hi, rfl, rfl, hG9, hsum, HGI, hbr⟩ := hrel
  clear HG0 m1 m2 m3 m10
  have B1r := HB1.out.keep hbr
  have B2r := HB2.out.keep hbr
  have hwr := hb2.trans (hbr.mono (by omega))
  have hsr := hbr.size
  obtain ⟨m1, m2, m3⟩ := id B1r
  have m10 := m1 0
  obtain ⟨ga, gc, rfl⟩ := hG9.form
  have HSUM := Lib.hid hsum
  have HG9 := Lib.hid hG9
  have hstl : st ≤ 1000 := by omega
  have hgl : g.length ≤ 1000 := by omega
  clear hsum hG9
  rcases i with _ | j
  ·obtain rfl : x = -1 := by omega
   have hGg : G = g := HGI.out
   have hav2 : ∀ x ∈ (w.heap.size + 1) :: av, x < wr.heap.size := fun x hx => by
    rcases List.mem_cons.1 hx with rfl | hx
    ·omega
    ·have := HAV.out x hx; omega
   have q := HQD.out wr (.slice ga g.length gc) hwr (by rw [hGg]; exact hgl) (by have h := HG9.out; rw [hGg]; exact h) hav2
   have HGL : Hid (G.length = g.length) := Lib.hid (by rw [hGg])
   clear hGg HGI HQD hav2 hx hi
   obtain ⟨RL, ⟨s1, sf1, rm1, fu1, dn1⟩, b1, c1⟩ := R
   go_wp2_with (first | (refine wpList_rowLoad row_st rfl (.tmp 3) rfl rfl (vs := stcs (.slice la l.length lc) sp ⟨s, safe, room, fuse, down⟩ b) rfl B1r ?_) | fail)
   refine q.mono ?_
   rintro e w3 ⟨v', rfl, hT, hb3⟩
   obtain ⟨va, vc, rfl⟩ := hT.form
   have HT := Lib.hid hT
   have hw3 := hwr.trans (hb3.mono hwr.size)
   have hs3 := hw3.size
   have B23 := B2r.keep hb3
   have hs23 : w.heap.size + 2 ≤ w3.heap.size := by have := hb3.size; omega
   clear q hT B1r B2r m1 m2 m3 m10 hb3
   by_cases hc0 : c1 = 0
   ·subst hc0
    have B24 := B23.alloc (.cells (stcs (.slice va RL.length vc) sp ⟨s1, sf1, rm1, fu1, dn1⟩ b1).toArray 76)
    have hb4 := Below.allocS hw3 (.cells (stcs (.slice va RL.length vc) sp ⟨s1, sf1, rm1, fu1, dn1⟩ b1).toArray 76)
    have HT4 := Lib.hid (HT.out.keep (Below.allocS (Below.refl _ _) (.cells (stcs (.slice va RL.length vc) sp ⟨s1, sf1, rm1, fu1, dn1⟩ b1).toArray 76)))
    go_wp2_with (first
     | (refine wpList_rowLoad row_st rfl (.tmp 12) rfl rfl (vs := stcs (.slice va RL.length vc) sp ⟨s1, sf1, rm1, fu1, dn1⟩ b1) rfl (Blk.new _ _ _) ?_)
     | (refine wpList_rowStore row_st rfl rfl (.tmp 6) (.tmp 71) rfl rfl rfl (vs := stcs (.slice va RL.length vc) sp ⟨s1, sf1, rm1, fu1, dn1⟩ b1) rfl (stcs_one _ _ _ _ _ _) (us := zst) rfl B24 ?_; intro w6 N6 m6))
    have hb6 := mod_two hb4 m6 (by omega) (by simp; omega)
    refine bodyPost_ret (res_st3 rfl _ _ (.slice va RL.length vc) sp ⟨s1, sf1, rm1, fu1, dn1⟩ b1 _ rfl N6) rfl ?_
    refine ⟨_, ?_, (HT4.out.modl m6 (by simp)).sub (fun x hx => .inl (List.mem_cons_of_mem _ hx)), hb6⟩
    rw [HGL.out]
    rfl
   ·have g1 : (c1 != 0) = true := by simpa using hc0
    have HRN : Hid (rtrimN c1 G.length = 0) := Lib.hid (if_neg hc0)
    clear hc0
    have B24 := B23.alloc (.cells (stcs (.slice va RL.length vc) sp ⟨s1, sf1, rm1, fu1, dn1⟩ b1).toArray 76)
    have hb4 := Below.allocS hw3 (.cells (stcs (.slice va RL.length vc) sp ⟨s1, sf1, rm1, fu1, dn1⟩ b1).toArray 76)
    have HT4 := Lib.hid (HT.out.keep (Below.allocS (Below.refl _ _) (.cells (stcs (.slice va RL.length vc) sp ⟨s1, sf1, rm1, fu1, dn1⟩ b1).toArray 76)))
    go_wp2_with (first
     | (refine wpList_rowLoad row_st rfl (.tmp 12) rfl rfl (vs := stcs (.slice va RL.length vc) sp ⟨s1, sf1, rm1, fu1, dn1⟩ b1) rfl (Blk.new _ _ _) ?_)
     | (refine wpList_rowStore row_st rfl rfl (.tmp 6) (.tmp 69) rfl rfl rfl (vs := stcs (.slice va RL.length vc) sp ⟨s1, sf1, rm1, fu1, dn1⟩ b1) rfl (stcs_one _ _ _ _ _ _) (us := zst) rfl B24 ?_; intro w6 N6 m6))
    have hb6 := mod_two hb4 m6 (by omega) (by simp; omega)
    refine bodyPost_ret (res_st3 rfl _ _ (.slice va RL.length vc) sp ⟨s1, sf1, rm1, fu1, dn1⟩ b1 _ rfl N6) rfl ?_
    refine ⟨_, ?_, (HT4.out.modl m6 (by simp)).sub (fun x hx => .inl (List.mem_cons_of_mem _ hx)), hb6⟩
    simp only [HRN.out]
    rfl
  ·obtain rfl : x = (j : Int) := by omega
   have hlt : j < l.length := by omega
   have hbd : 0 ≤ (j : Int) ∧ (j : Int) < (l.length : Int) := by omega
   obtain ⟨t, ht⟩ : ∃ t, l[j]? = some t := ⟨l[j], List.getElem?_eq_getElem hlt⟩
   have dj : decide (0 ≤ (j : Int)) = true := by simp
   have wj : IntKind.i64.wrap ((j : Int) - 1) = (j : Int) - 1 := by rw [IntKind.wrap_i64]; omega
   have ws : IntKind.i64.wrap ((st : Int) + 1) = ((st + 1 : Nat) : Int) := by rw [IntKind.wrap_i64]; omega
   by_cases ha : j + 1 = l.length
   ·have e1 : ((j : Int) == (l.length : Int) - 1) = true := by rw [beq_iff_eq]; omega
    have HG2 : Hid (G = rtrimG l sp now most j (st + 1) g) := Lib.hid (by rw [HGI.out, rtrimG_stay ht (.inl ha)])
    clear ha hlt ht HGI hx
    go_wp2_with fail
    go_quiet (fail)
    go_wp2_with fail
    have hbz := below_drewN (Below.refl wr.heap.size wr) nq
    have hsu := HSUM.out
    exact ⟨⟨j, st + 1, (j : Int) - 1, g, by omega, by omega, by go_num, by go_num, HG9.out.keep hbz, by omega, HG2, hbr.trans (hbz.mono hsr)⟩, by simp [intOf]⟩
   ·have e1 : ((j : Int) == (l.length : Int) - 1) = false := by rw [beq_eq_false_iff_ne]; omega
    obtain ⟨g2, off, sk, ms, rfl, hg2, hR, hE⟩ := HLV.out.at j t ht
    obtain ⟨ka, kc, hk, _⟩ := id hE.ss
    obtain ⟨ma, mc, hmm, _⟩ := id hE.ms
    simp only at hk hmm
    subst hk hmm
    have HRG := Lib.hid hR
    have HNA := Lib.hid ha
    have HHT := Lib.hid ht
    have q2 := fun W => rstale_any (some ⟨g2, off, none⟩) l.length lc sp now hsp hnow ⟨s, safe, room, fuse, down⟩ b t ka kc ma mc W
    have HGO : Hid ((st : Int) < most → staleR sp now t = true → G = rtrimG l sp now most j st (t.head.height :: g)) := Lib.hid (fun _ h => by rw [HGI.out]; exact rtrimG_goes ht ha (fun _ => h))
    have HGF : Hid (¬ (st : Int) < most → G = rtrimG l sp now most j st (t.head.height :: g)) := Lib.hid (fun h => by rw [HGI.out]; exact rtrimG_goes ht ha (fun h2 => absurd h2 h))
    have HGS : Hid ((st : Int) < most → staleR sp now t = false → G = rtrimG l sp now most j (st + 1) g) := Lib.hid (fun h1 h => by rw [HGI.out]; exact rtrimG_stay ht (.inr ⟨h1, h⟩))
    have HLT := Lib.hid hlt
    generalize staleR sp now t = sr at *
    clear ha hR hE ht HGI hx hlt HHT HNA
    by_cases hst : (st : Int) < most
    ·have f1 : decide ((st : Int) < most) = true := by simpa using hst
     go_wp2_with fail
     refine wp_held rfl (by kernel_rfl) ?_
     (refine qP ?_ ?_ ?_; rotate_left; focus (intro w; go_simp; try with_reducible rfl))
     try simp only [pna, pnb, pnc, pnd, pne]
     (refine qP ?_ ?_ ?_; rotate_left; focus (intro w; go_simp; try with_reducible rfl))
     try simp only [pna, pnb, pnc, pnd, pne]
     refine wpQ_load (by rfl) (.slice (some ⟨g2, off, none⟩) l.length lc) (fun w' hb2 => (by have c := (B1r.keep hb2).cell 0; go_simp; try rfl)) ?_
     try simp only [pna, pnb, pnc, pnd, pne]
     (refine qP ?_ ?_ ?_; rotate_left; focus (intro w; go_simp; try with_reducible rfl))
     try simp only [pna, pnb, pnc, pnd, pne]
     (refine qP ?_ ?_ ?_; rotate_left; focus (intro w; go_simp; try with_reducible rfl))
     try simp only [pna, pnb, pnc, pnd, pne]
     (refine qP ?_ ?_ ?_; rotate_left; focus (intro w; go_simp; try with_reducible rfl))
     try simp only [pna, pnb, pnc, pnd, pne]
     (refine qP ?_ ?_ ?_; rotate_left; focus (intro w; go_simp; try with_reducible rfl))
     try simp only [pna, pnb, pnc, pnd, pne]
     (first | (refine qN ?_) | (refine qP ?_ ?_ ?_; rotate_left; focus (intro w; go_simp; try with_reducible rfl)))
     try simp only [pna, pnb, pnc, pnd, pne]
     (first | (refine qN ?_) | (refine qP ?_ ?_ ?_; rotate_left; focus (intro w; go_simp; try with_reducible rfl)))
     try simp only [pna, pnb, pnc, pnd, pne]
     (first | (refine qN ?_) | (refine qP ?_ ?_ ?_; rotate_left; focus (intro w; go_simp; try with_reducible rfl)))
     try simp only [pna, pnb, pnc, pnd, pne]
     (first | (refine qN ?_) | (refine qP ?_ ?_ ?_; rotate_left; focus (intro w; go_simp; try with_reducible rfl)))
     try simp only [pna, pnb, pnc, pnd, pne]
     refine wpQ_row row_st (by rfl) (.tmp 3) rfl rfl (vs := stcs (.slice (some ⟨g2, off, none⟩) l.length lc) sp ⟨s, safe, room, fuse, down⟩ b) (rfl) (fun w' hb2 => B1r.keep hb2) ?_
     try simp only [pna, pnb, pnc, pnd, pne]
     (first | (refine qN ?_) | (refine qP ?_ ?_ ?_; rotate_left; focus (intro w; go_simp; try with_reducible rfl)))
     try simp only [pna, pnb, pnc, pnd, pne]
     refine wpQ_load (by rfl) (.slice (some ⟨g2, off, none⟩) l.length lc) (fun w' hb2 => (by have c := (B1r.keep hb2).cell 0; go_simp; try rfl)) ?_
     try simp only [pna, pnb, pnc, pnd, pne]
     (first | (refine qN ?_) | (refine qP ?_ ?_ ?_; rotate_left; focus (intro w; go_simp; try with_reducible rfl)))
     try simp only [pna, pnb, pnc, pnd, pne]
     refine wpQ_pure (by rfl) (.pointer (some ⟨g2, off + j * 13, none⟩)) (fun w => (by go_simp; try rfl)) ?_
     try simp only [pna, pnb, pnc, pnd, pne]
     refine wpQ_load (by rfl) (.agg (tcs t (.slice ka t.head.skips.length kc) (.slice ma t.set.length mc)).toArray) (fun w' hb2 => exec_rowAt row_trust (.tmp 40) rfl rfl rfl (rangeAt_keep HRG.out hg2 (hwr.trans (hb2.mono hwr.size)))) ?_
     try simp only [pna, pnb, pnc, pnd, pne]
     (first | (refine qN ?_) | (refine qP ?_ ?_ ?_; rotate_left; focus (intro w; go_simp; try with_reducible rfl)))
     try simp only [pna, pnb, pnc, pnd, pne]
     refine wpQ_call (by rfl) _ _ (.bool sr) (fun w' hb2 => (q2 w').mono fun _ _ ⟨he, hb4⟩ => ⟨he, hb2.trans (hb4.mono hb2.size)⟩) (by intro w; go_simp; try rfl) ?_
     try simp only [pna, pnb, pnc, pnd, pne]
     (first | (refine qN ?_) | (refine qP ?_ ?_ ?_; rotate_left; focus (intro w; go_simp; try with_reducible rfl)))
     try simp only [pna, pnb, pnc, pnd, pne]
     (first | (refine qN ?_) | (refine qP ?_ ?_ ?_; rotate_left; focus (intro w; go_simp; try with_reducible rfl)))
     try simp only [pna, pnb, pnc, pnd, pne]
     (refine qP ?_ ?_ ?_; rotate_left; focus (intro w; go_simp; try with_reducible rfl))
     try simp only [pna, pnb, pnc, pnd, pne]
     intro w5 hb5
     clear q2
     cases sr
     ·have HG2 := Lib.hid (HGS.out hst (by first | rfl | trivial))
      clear HGF HGS HGO hst
      go_wp2_with fail
      have hsu := HSUM.out
      have hl2 := HLT.out
      exact ⟨⟨j, st + 1, (j : Int) - 1, g, by omega, by omega, by go_num, by go_num, HG9.out.keep hb5, by omega, HG2, hbr.trans (hb5.mono hsr)⟩, by simp [intOf]⟩
     ·have HG2 := Lib.hid (HGO.out hst (by first | rfl | trivial))
      clear HGF HGS HGO hst
      have hR5 := rangeAt_keep HRG.out hg2 (hwr.trans (hb5.mono hwr.size))
      have hgz : g2 < w5.heap.size := by have := hwr.size; have := hb5.size; omega
      have hG5 := Lib.hid (HG9.out.keep hb5)
      have c0 := hR5 0 (.int .i64 t.head.height) rfl
      rw [Nat.add_zero] at c0
      have B15 := B1r.keep hb5
      have hs5 := hb5.size
      clear m1 m2 m3 m10 hR5 B1r B2r
      obtain ⟨m1, m2, m3⟩ := id B15
      have m10 := m1 0
      go_wp2_with (first
       | (at_builtin; refine wpList_appZ rfl (.tmp 49) (.tmp 57) rfl w5.heap.size _ [] rfl ((ZRow.empty w5).alloc _) (w5.heap.size + 1) 0 1 1 [t.head.height] rfl rfl (by have := zsrc1 (w5.alloc (.cells #[] 3)) t.head.height 3; simpa using this) (by simp) (by simp; omega) ?_; rintro v6 w6 hz6 hb6; obtain ⟨za, zc, rfl⟩ := hz6.form)
       | (at_builtin; refine wpList_appZs rfl (.tmp 58) (.tmp 59) rfl w5.heap.size _ [t.head.height] rfl hz6 _ g rfl (hG5.out.keep ((Below.allocS (Below.allocS (Below.refl _ _) (.cells #[] 3)) (.cells #[.int .i64 t.head.height] 3)).trans hb6)) (by simp; omega) (by have := hb6.size; simp at this; omega) ?_; rintro v7 w7 hz7 hb7))
      have hbz := hb5.trans ((((Below.allocS (Below.allocS (Below.refl w5.heap.size w5) (.cells #[] 3)) (.cells #[.int .i64 t.head.height] 3)).trans hb6).trans hb7).mono hs5)
      have hsu := HSUM.out
      have hl2 := HLT.out
      exact ⟨⟨j, st, (j : Int) - 1, t.head.height :: g, by omega, by omega, by go_num, rfl, hz7.is, by simp only [List.length_cons]; omega, HG2, hbr.trans (hbz.mono hsr)⟩, by simp [intOf]⟩
    ·have f1 : decide ((st : Int) < most) = false := by simpa using hst
     have HG2 := Lib.hid (HGF.out hst)
     clear hst HGF HGS HGO q2
     go_wp2_with fail
     go_quiet (fail)
     obtain ⟨w5, hw5⟩ : ∃ w5, w5 = wr.drewN nq := ⟨_, rfl⟩
     rw [← hw5]
     have hb5 : Below wr.heap.size wr w5 := by rw [hw5]; exact below_drewN (Below.refl _ _) nq
     clear hw5
     have hR5 := rangeAt_keep HRG.out hg2 (hwr.trans (hb5.mono hwr.size))
     have hgz : g2 < w5.heap.size := by have := hwr.size; have := hb5.size; omega
     have hG5 := Lib.hid (HG9.out.keep hb5)
     have c0 := hR5 0 (.int .i64 t.head.height) rfl
     rw [Nat.add_zero] at c0
     have B15 := B1r.keep hb5
     have hs5 := hb5.size
     clear m1 m2 m3 m10 hR5 B1r B2r
     obtain ⟨m1, m2, m3⟩ := id B15
     have m10 := m1 0
     go_wp2_with (first
      | (at_builtin; refine wpList_appZ rfl (.tmp 49) (.tmp 57) rfl w5.heap.size _ [] rfl ((ZRow.empty w5).alloc _) (w5.heap.size + 1) 0 1 1 [t.head.height] rfl rfl (by have := zsrc1 (w5.alloc (.cells #[] 3)) t.head.height 3; simpa using this) (by simp) (by simp; omega) ?_; rintro v6 w6 hz6 hb6; obtain ⟨za, zc, rfl⟩ := hz6.form)
      | (at_builtin; refine wpList_appZs rfl (.tmp 58) (.tmp 59) rfl w5.heap.size _ [t.head.height] rfl hz6 _ g rfl (hG5.out.keep ((Below.allocS (Below.allocS (Below.refl _ _) (.cells #[] 3)) (.cells #[.int .i64 t.head.height] 3)).trans hb6)) (by simp; omega) (by have := hb6.size; simp at this; omega) ?_; rintro v7 w7 hz7 hb7))
     have hbz := hb5.trans ((((Below.allocS (Below.allocS (Below.refl w5.heap.size w5) (.cells #[] 3)) (.cells #[.int .i64 t.head.height] 3)).trans hb6).trans hb7).mono hs5)
     have hsu := HSUM.out
     have hl2 := HLT.out
     exact ⟨⟨j, st, (j : Int) - 1, t.head.height :: g, by omega, by omega, by go_num, rfl, hz7.is, by simp only [List.length_cons]; omega, HG2, hbr.trans (hbz.mono hsr)⟩, by simp [intOf]⟩
theorem rtrim_range (oa : Option Addr) (on oc : Nat) (sp most now : Int) (d : Dk) (b : Bool) (hmo : most < 1) (w : World) :
  Calls Tryz.prog 40 #[stv (.slice oa on oc) sp d b, .int .i64 most, .int .i64 now] w fun e w' => e = .returned (.tuple #[stv (.slice oa on oc) sp d b, .int .i64 0, .int .i64 1]) ∧ Below w.heap.size w w' := by
 obtain ⟨s, safe, room, fuse, down⟩ := d
 have d0 : decide (most < 1) = true := by simpa using hmo
 clear hmo
 go_enter Tryz.func40, Tryz.ntmps40
 go_wp2_with fail
 refine bodyPost_ret (res_st3 rfl _ _ (.slice oa on oc) sp ⟨s, safe, room, fuse, down⟩ b _ rfl (Blk.new' (by simp))) rfl ?_
 exact ⟨rfl, Below.allocS (Below.allocS (Below.refl _ _) _) _⟩
end Go.Proofs.YthgjdaomcpinaaaGreatDoor
