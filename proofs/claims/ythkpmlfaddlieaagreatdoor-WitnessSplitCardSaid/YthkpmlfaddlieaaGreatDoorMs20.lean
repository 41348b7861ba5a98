/- WorldV, QAns, QChk, AccT, Lnk. -/
import Derived.Test.YthkpmlfaddlieaaGreatDoorMs19
set_option linter.unnecessarySimpa false
set_option linter.unusedSimpArgs false
set_option linter.unusedVariables false
set_option maxRecDepth 100000
set_option maxHeartbeats 32000000
namespace Go.Proofs.YthkpmlfaddlieaaGreatDoor
open Go.ChangeShapes Go.WideShapes Go.ChangeAt Go.RowKit Pl
theorem ac_val {W : World} {v : Value} (h : Sh.Val W (.slice 3 (.pair .str (.pair (.int .i64) (.pair (.int .i64) .unit)))) v) : ∃ l : List Acc, AcL W v l := by
 rcases (show _ ∨ _ from h) with h | ⟨a, len, cap, hv, hlc, hcm, hel⟩
 ·obtain rfl : v = .slice none 0 0 := by simpa using h
  exact ⟨[], none, 0, rfl, Nat.le_refl _, by unfold maxLen; omega, fun h => absurd rfl h⟩
 ·obtain rfl : v = .slice (some a) len cap := by simpa using hv
  rcases Nat.eq_zero_or_pos len with h0 | hpos
  ·subst h0
   exact ⟨[], some a, cap, rfl, hlc, hcm, fun h => absurd rfl h⟩
  ·obtain ⟨hs, hc⟩ := slice_cells (by decide) hpos hel
   have hf : ∀ i, ∃ x : Acc, i < len → ∀ j, j < 3 → W.cell? ⟨a.block, a.off + i * 3 + j, none⟩ = (accs x)[j]? := by
    intro i
    by_cases hi : i < len
    ·obtain ⟨cs, ⟨x, y, rfl, ⟨s, rfl, _⟩, z, u, rfl, ⟨n, rfl, _⟩, z2, u2, rfl, ⟨n2, rfl, _⟩, hu⟩, _, hj⟩ := hc i hi
     have h0 := hj 0 (by decide)
     have h1 := hj 1 (by decide)
     have h2 := hj 2 (by decide)
     refine ⟨⟨s.data.toList, n, n2⟩, fun _ j hj3 => ?_⟩
     rcases (show j = 0 ∨ j = 1 ∨ j = 2 from by omega) with rfl | rfl | rfl
     ·have hq : (accs ⟨s.data.toList, n, n2⟩)[0]? = some (Value.string ⟨List.toArray s.data.toList⟩) := rfl
      rw [hq, ← str_list s]
      simpa using h0
     ·exact h1.trans rfl
     ·exact h2.trans rfl
    ·exact ⟨acZ, fun h => absurd h hi⟩
   obtain ⟨f, hf⟩ := Classical.axiomOfChoice hf
   obtain ⟨b, off, sp⟩ := a
   simp only at hs
   subst hs
   have hlt : b < W.heap.size := cell_lt ((hf 0 hpos 0 (by decide)).trans rfl)
   refine ⟨(List.range len).map f, some ⟨b, off, none⟩, cap, by simp, by simpa using hlc, hcm, fun _ => ⟨b, off, rfl, hlt, fun i hi => ?_⟩⟩
   have hi' : i < len := by simpa using hi
   have hg : ((List.range len).map f).getD i acZ = f i := by simp [List.getD, hi']
   rw [hg]
   intro j u hj
   have hj3 : j < 3 := (List.getElem?_eq_some_iff.1 hj).1
   exact (hf i hi' j hj3).trans hj
theorem bo_val {W : World} {v : Value} (h : Sh.Val W (.slice 1 .bool) v) : ∃ l : List Bool, BoL W v l := by
 rcases (show _ ∨ _ from h) with h | ⟨a, len, cap, hv, hlc, hcm, hel⟩
 ·obtain rfl : v = .slice none 0 0 := by simpa using h
  exact ⟨[], none, 0, rfl, Nat.le_refl _, by unfold maxLen; omega, fun h => absurd rfl h⟩
 ·obtain rfl : v = .slice (some a) len cap := by simpa using hv
  rcases Nat.eq_zero_or_pos len with h0 | hpos
  ·subst h0
   exact ⟨[], some a, cap, rfl, hlc, hcm, fun h => absurd rfl h⟩
  ·obtain ⟨hs, hc⟩ := slice_cells (by decide) hpos hel
   have hf : ∀ i, ∃ x : Bool, i < len → W.cell? ⟨a.block, a.off + i, none⟩ = some (.bool x) := by
    intro i
    by_cases hi : i < len
    ·obtain ⟨cs, ⟨x, rfl⟩, _, hj⟩ := hc i hi
     have h0 := hj 0 (by decide)
     exact ⟨x, fun _ => by simpa using h0⟩
    ·exact ⟨false, fun h => absurd h hi⟩
   obtain ⟨f, hf⟩ := Classical.axiomOfChoice hf
   obtain ⟨b, off, sp⟩ := a
   simp only at hs
   subst hs
   refine ⟨(List.range len).map f, some ⟨b, off, none⟩, cap, by simp, by simpa using hlc, hcm, fun _ => ⟨b, off, rfl, cell_lt (hf 0 hpos), fun i hi => ?_⟩⟩
   have hi' : i < len := by simpa using hi
   have hg : ((List.range len).map f).getD i false = f i := by simp [List.getD, hi']
   rw [hg]
   exact hf i hi'
theorem slice_one {W : World} {n : Nat} {s : Sh} {cs : List Value} (h : Sh.Ok W (.slice n s) cs) : ∃ v', cs = [v'] ∧ Sh.Val W (.slice n s) v' := by
 rcases h with rfl | ⟨a, len, cap, rfl, hr⟩
 ·exact ⟨_, rfl, .inl rfl⟩
 ·exact ⟨_, rfl, .inr ⟨a, len, cap, rfl, hr⟩⟩
theorem world_val {W : World} {v : Value} (h : Sh.Val W (.pair (.slice 3 (.pair .str (.pair (.int .i64) (.pair (.int .i64) .unit)))) (.pair (.slice 2 (.pair .str (.pair (.int .i64) .unit))) (.pair (.int .i64) (.pair (.slice 1 .str) .unit)))) v) :
  ∃ (va vs vb : Value) (many : Int) (A : List Acc) (S : List (Bs × Int)) (B : List Bs), v = .agg (wdcs va vs many vb).toArray ∧ AcL W va A ∧ MS W vs S ∧ SS W vb B := by
 obtain ⟨c0, rfl, x, y, rfl, hx, z, u, rfl, hz, x2, y2, rfl, ⟨n, rfl, _⟩, x3, y3, rfl, hx3, hy3⟩ := h
 obtain rfl : y3 = [] := hy3
 obtain ⟨v1, rfl, h1⟩ := slice_one hx
 obtain ⟨v2, rfl, h2⟩ := slice_one hz
 obtain ⟨v3, rfl, h3⟩ := slice_one hx3
 obtain ⟨A, hA⟩ := ac_val h1
 obtain ⟨S, hS⟩ := ms_val h2
 obtain ⟨B, hB, _⟩ := ss_val h3
 exact ⟨v1, v2, v3, n, A, S, B, rfl, hA, hS, hB⟩
theorem fork_val {W : World} {v : Value} (h : Sh.Val W (.pair (.int .i64) (.pair (.int .i64) (.pair (.int .i64) (.pair (.slice 1 .bool) (.pair (.slice 1 .bool) (.pair .bool .unit)))))) v) :
  ∃ (at_ by_ up : Int) (fa fb : Value) (all : Bool) (la lb : List Bool), v = .agg (fkcs at_ by_ up fa fb all).toArray ∧ BoL W fa la ∧ BoL W fb lb := by
 obtain ⟨c0, rfl, _, _, rfl, ⟨n1, rfl, _⟩, _, _, rfl, ⟨n2, rfl, _⟩, _, _, rfl, ⟨n3, rfl, _⟩, x, _, rfl, hx, z, _, rfl, hz, _, y3, rfl, ⟨b, rfl⟩, hy3⟩ := h
 obtain rfl : y3 = [] := hy3
 obtain ⟨v1, rfl, h1⟩ := slice_one hx
 obtain ⟨v2, rfl, h2⟩ := slice_one hz
 obtain ⟨la, hla⟩ := bo_val h1
 obtain ⟨lb, hlb⟩ := bo_val h2
 exact ⟨n1, n2, n3, v1, v2, b, la, lb, rfl, hla, hlb⟩
end Go.Proofs.YthkpmlfaddlieaaGreatDoor
namespace Go.Proofs.YthkpmlfaddlieaaGreatDoor
open Go.RowKit Go.Shelf Pl
def htOk (n : Int) : Bool := decide (0 ≤ n) && decide (n ≤ 1048576)
theorem qheight_any (n : Int) (w : World) : Calls Tryz.prog 120 #[.int .i64 n] w fun e w' => e = .returned (.bool (htOk n)) ∧ w' = w := by
 unfold htOk
 by_cases h1 : 0 ≤ n
 ·have g1 : decide (0 ≤ n) = true := by simpa using h1
  have g2 : decide (n ≥ 0) = true := by simpa using h1
  by_cases h2 : n ≤ 1048576
  ·have g3 : decide (n ≤ 1048576) = true := by simpa using h2
   rw [g1, g3]
   clear h1 h2
   go_enter Tryz.func120, Tryz.ntmps120
   go_wp2_with fail
   all_goals (go_ret; exact ⟨rfl, rfl⟩)
  ·have g3 : decide (n ≤ 1048576) = false := by simpa using h2
   rw [g1, g3]
   clear h1 h2
   go_enter Tryz.func120, Tryz.ntmps120
   go_wp2_with fail
   all_goals (go_ret; exact ⟨rfl, rfl⟩)
 ·have g1 : decide (0 ≤ n) = false := by simpa using h1
  have g2 : decide (n ≥ 0) = false := by simpa using h1
  rw [g1]
  clear h1
  go_enter Tryz.func120, Tryz.ntmps120
  go_wp2_with fail
  all_goals (go_ret; exact ⟨rfl, rfl⟩)
def setOk (l : List (Bs × Int)) : Bool := decide (l.length = 0) || chkM l
theorem qset_any (v : Value) (l : List (Bs × Int)) (w : World) (hv : MS w v l) : Calls Tryz.prog 123 #[v] w fun e w' => e = .returned (.bool (setOk l)) ∧ Below w.heap.size w w' := by
 obtain ⟨a, c, rfl⟩ := hv.form
 have q1 := mcheck_any _ l w hv
 unfold setOk
 clear hv
 generalize chkM l = b at *
 generalize l.length = n at *
 by_cases h : n = 0
 ·subst h
  go_enter Tryz.func123, Tryz.ntmps123
  go_wp2_with fail
  all_goals (go_ret; exact ⟨rfl, Below.refl _ _⟩)
 ·have g1 : decide (n = 0) = false := by simpa using h
  have g2 : ((n : Int) == 0) = false := by simpa using h
  have g3 : decide ((n : Int) = 0) = false := by simpa using h
  rw [g1]
  clear h
  cases b
  ·go_enter Tryz.func123, Tryz.ntmps123
   go_wp2_with fail
   refine q1.mono ?_
   rintro e w1 ⟨rfl, hb⟩
   go_wp2_with fail
   all_goals (go_ret; exact ⟨rfl, hb⟩)
  ·go_enter Tryz.func123, Tryz.ntmps123
   go_wp2_with fail
   refine q1.mono ?_
   rintro e w1 ⟨rfl, hb⟩
   go_wp2_with fail
   all_goals (go_ret; exact ⟨rfl, hb⟩)
def bareOk (d : Bs) (ns : List Bs) : Bool := decide (d = []) && decide (ns.length = 0)
theorem qbare_any (d : Bs) (a : Option Addr) (c : Nat) (ns : List Bs) (w : World) : Calls Tryz.prog 124 #[.agg #[.string ⟨d.toArray⟩, .slice a ns.length c]] w fun e w' => e = .returned (.bool (bareOk d ns)) ∧ Below w.heap.size w w' := by
 unfold bareOk
 have hb : Below w.heap.size w (w.alloc (.cells #[.string ⟨d.toArray⟩, .slice a ns.length c] 37)) := Below.allocS (Below.refl _ _) _
 generalize ns.length = n at *
 by_cases hd : d = []
 ·subst hd
  by_cases h : n = 0
  ·subst h
   go_enter Tryz.func124, Tryz.ntmps124
   go_wp2_with fail
   all_goals (go_ret; exact ⟨rfl, hb⟩)
  ·have g1 : decide (n = 0) = false := by simpa using h
   have g2 : ((n : Int) == 0) = false := by simpa using h
   have g3 : decide ((n : Int) = 0) = false := by simpa using h
   rw [g1]
   clear h
   go_enter Tryz.func124, Tryz.ntmps124
   go_wp2_with fail
   all_goals (go_ret; exact ⟨rfl, hb⟩)
 ·have g0 : (d == []) = false := by simpa using hd
  have g1 : decide (d = []) = false := by simpa using hd
  rw [g1]
  clear hd
  go_enter Tryz.func124, Tryz.ntmps124
  go_wp2_with fail
  all_goals (go_ret; exact ⟨rfl, hb⟩)
theorem qtexts_nil (w : World) : Calls Tryz.prog 125 #[.slice none 0 0] w fun e w' => e = .returned (.bool true) ∧ w' = w := by
 go_enter Tryz.func125, Tryz.ntmps125
 go_wp2_with fail
 go_loopw [10] (fun s10 wr => s10 = .int .i64 0 ∧ wr = w) (fun s10 _ => 0)
 case atStart => exact ⟨rfl, rfl⟩
 case round =>
  obtain ⟨rfl, rfl⟩ := hrel
  go_wp2_with fail
  go_ret
  exact ⟨rfl, rfl⟩
theorem qpage_nil (w : World) : Calls Tryz.prog 126 #[.agg #[.slice none 0 0, .string ⟨List.toArray []⟩, .slice none 0 0]] w fun e w' => e = .returned (.bool true) ∧ Below w.heap.size w w' := by
 have hb : Below w.heap.size w (w.alloc (.cells #[.slice none 0 0, .string ⟨List.toArray []⟩, .slice none 0 0] 40)) := Below.allocS (Below.refl _ _) _
 go_enter Tryz.func126, Tryz.ntmps126
 go_wp2_with fail
 go_loopw [18] (fun s18 wr => s18 = .int .i64 0 ∧ wr = w.alloc (.cells #[.slice none 0 0, .string ⟨List.toArray []⟩, .slice none 0 0] 40)) (fun s18 _ => 0)
 case atStart => exact ⟨rfl, rfl⟩
 case round =>
  obtain ⟨rfl, rfl⟩ := hrel
  go_wp2_with fail
  refine (qtexts_nil _).mono ?_
  rintro e w1 ⟨rfl, rfl⟩
  go_wp2_with fail
  go_ret
  exact ⟨rfl, hb⟩
end Go.Proofs.YthkpmlfaddlieaaGreatDoor
namespace Go.Proofs.YthkpmlfaddlieaaGreatDoor
open Go.RowKit Go.Shelf Pl
def caP (ht : Int) (h : Hd) (nx : List (Bs × Int)) (d : Bs) (ns : List Bs) : Bool := htOk ht && (setOk nx && ((bareOk d ns || decide ((encCR d ns).2 = 0)) && fineH h))
theorem acs_cells {w : World} {b : Nat} {ht : Int} {hv nv : Value} {d : Bs} {sg : Value} (h : Blk w b (acs ht hv nv d sg).toArray) :
  w.cell? ⟨b, 0, none⟩ = some (.int .i64 0) ∧ w.cell? ⟨b, 1, none⟩ = some (.int .i64 ht) ∧ w.cell? ⟨b, 2, none⟩ = some hv ∧ w.cell? ⟨b, 3, none⟩ = some (.slice none 0 0) ∧ w.cell? ⟨b, 4, none⟩ = some nv ∧ w.cell? ⟨b, 5, none⟩ = some (.string ⟨d.toArray⟩) ∧ w.cell? ⟨b, 6, none⟩ = some sg ∧
   w.cell? ⟨b, 7, none⟩ = some (.slice none 0 0) ∧ w.cell? ⟨b, 8, none⟩ = some (.slice none 0 0) ∧ w.cell? ⟨b, 9, none⟩ = some (.string ⟨List.toArray []⟩) ∧ w.cell? ⟨b, 10, none⟩ = some (.slice none 0 0) :=
 ⟨h.cell 0, h.cell 1, h.cell 2, h.cell 3, h.cell 4, h.cell 5, h.cell 6, h.cell 7, h.cell 8, h.cell 9, h.cell 10⟩
theorem qchk_any (ht : Int) (h : Hd) (sk : Value) (nx : List (Bs × Int)) (d : Bs) (ns : List Bs) (hv nv sg : Value) (w : World) (hR : AnsR w h sk nx ns hv nv sg) :
  Calls Tryz.prog 83 #[.agg (acs ht hv nv d sg).toArray] w fun e w' => e = .returned (.int .i64 (if caP ht h nx d ns then 0 else 290)) ∧ Below w.heap.size w w' := by
 have B0 : Blk (w.alloc (.cells (acs ht hv nv d sg).toArray 42)) w.heap.size (acs ht hv nv d sg).toArray := Blk.new _ _ _
 have hb0 : Below w.heap.size w (w.alloc (.cells (acs ht hv nv d sg).toArray 42)) := Below.allocS (Below.refl _ _) _
 obtain ⟨⟨k1, rfl, K1⟩, hnx, hsg, hsk⟩ := hR
 obtain ⟨na, nc, rfl⟩ := hnx.form
 obtain ⟨sa, sc, rfl⟩ := hsg.form
 obtain ⟨ka, kc, rfl⟩ := hsk.form
 have q1 := fun W => qheight_any ht W
 have q2 := fun W (hW : Below w.heap.size w W) => cencode_any (.agg #[.string ⟨d.toArray⟩, .slice sa ns.length sc]) d ns W ⟨_, rfl, hsg.keep hW⟩
 have q3 := fun W => qset_any (.slice none 0 0) [] W ⟨none, 0, rfl, Nat.le_refl _, by unfold maxLen; omega, fun h => absurd rfl h⟩
 have q4 := fun W (hW : Below w.heap.size w W) => qset_any (.slice na nx.length nc) nx W (hnx.keep hW)
 have q5 := fun W => qbare_any d sa sc ns W
 have q6 := fun W => qtexts_nil W
 have q7 := fun W => qpage_nil W
 have q8 := fun W (hW : Below w.heap.size w W) => hd_check h.height h.epoch h.view h.last h.parent h.state h.receipts h.txs h.members h.next h.skips (.slice ka h.skips.length kc) W (hsk.keep hW)
 rw [show setOk [] = true from rfl] at q3
 have HK1 := Lib.hid K1
 clear hnx hsg hsk K1
 unfold caP
 generalize htOk ht = b1 at *
 generalize setOk nx = b2 at *
 generalize bareOk d ns = b3 at *
 generalize (encCR d ns).1 = et at *
 generalize (encCR d ns).2 = ec at *
 rw [show fineH (⟨h.height, h.epoch, h.view, h.last, h.parent, h.state, h.receipts, h.txs, h.members, h.next, h.skips⟩ : Hd) = fineH h from rfl] at q8
 generalize fineH h = b5 at *
 obtain ⟨c0, c1, c2, c3, c4, c5, c6, c7, c8, c9, c10⟩ := acs_cells B0
 go_enter Tryz.func83, Tryz.ntmps83
 go_wp2_with fail
 refine (q1 _).mono ?_
 rintro e w1 ⟨rfl, rfl⟩
 cases b1
 ·go_wp2_with fail
  all_goals (go_ret; exact ⟨rfl, hb0⟩)
 go_wp2_with fail
 refine (q2 _ hb0).mono ?_
 rintro e w2 ⟨rfl, hb⟩
 have hb02 := hb0.trans (hb.mono hb0.size)
 have B0 := B0.keep hb
 obtain ⟨c0, c1, c2, c3, c4, c5, c6, c7, c8, c9, c10⟩ := acs_cells B0
 clear hb hb0 q1 q2
 go_wp2_with fail
 refine (q3 _).mono ?_
 rintro e w3 ⟨rfl, hb⟩
 have hb03 := hb02.trans (hb.mono hb02.size)
 have B0 := B0.keep hb
 obtain ⟨c0, c1, c2, c3, c4, c5, c6, c7, c8, c9, c10⟩ := acs_cells B0
 clear hb hb02
 go_wp2_with fail
 refine (q4 _ hb03).mono ?_
 rintro e w4 ⟨rfl, hb⟩
 have hb04 := hb03.trans (hb.mono hb03.size)
 have B0 := B0.keep hb
 obtain ⟨c0, c1, c2, c3, c4, c5, c6, c7, c8, c9, c10⟩ := acs_cells B0
 clear hb hb03
 cases b2
 ·go_wp2_with fail
  all_goals (go_ret; exact ⟨rfl, hb04⟩)
 go_wp2_with fail
 refine (q5 _).mono ?_
 rintro e w5 ⟨rfl, hb⟩
 have hb05 := hb04.trans (hb.mono hb04.size)
 have B0 := B0.keep hb
 obtain ⟨c0, c1, c2, c3, c4, c5, c6, c7, c8, c9, c10⟩ := acs_cells B0
 clear hb hb04
 cases b3
 ·by_cases hec : ec = 0
  ·subst hec
   go_wp2_with fail
   refine (q6 _).mono ?_
   rintro e w6 ⟨rfl, rfl⟩
   go_wp2_with fail
   refine (q7 _).mono ?_
   rintro e w7 ⟨rfl, hb⟩
   have hb07 := hb05.trans (hb.mono hb05.size)
   have B7 := Lib.hid (B0.keep hb)
   obtain ⟨c0, c1, c2, c3, c4, c5, c6, c7, c8, c9, c10⟩ := acs_cells B7.out
   have hs7 := hb07.size
   clear hb hb05 q3 q4 q5 q6 q7
   go_wp2_with fail
   go_loopw [78] (fun s78 wr => ∃ k : Nat, s78 = .int .i64 ((k : Int)) ∧ k ≤ 1 ∧ (k = 1 → b5 = true) ∧ Hid (Below w.heap.size w wr)) (fun s78 _ => 1 - (intOf s78).toNat)
   case atStart => exact ⟨0, rfl, by omega, fun h => absurd h (by decide), Lib.hid hb07⟩
   case round =>
    clear hb07 c0 c1 c2 c3 c4 c5 c6 c7 c8 c9 c10
    obtain ⟨k, rfl, hk, hk5, HB⟩ := hrel
    obtain ⟨wr, hwr⟩ := Below.name HB.out
    subst hwr
    have hbr := HB.out
    by_cases h0 : k = 0
    ·subst h0
     have hx : Below wr.heap.size wr (wr.alloc (.cells (hcs h (.slice ka h.skips.length kc)).toArray 48)) := Below.allocS (Below.refl _ _) _
     have r1 := (HK1.out.keep hbr).range
     clear hk5
     go_upto_region 9 with (first
      | (refine wpList_rowR row_head rfl (.tmp 80) rfl rfl (vs := hcs h (.slice ka h.skips.length kc)) rfl r1 ?_)
      | (refine wpList_rowStoreT row_head rfl rfl (.tmp 6) (.tmp 81) rfl rfl (vs := hcs h (.slice ka h.skips.length kc)) rfl rfl (hcs_one _ _ _ _) (us := hcs hdZ (.slice none 0 0)) rfl (Blk.new' rfl) (Typ.new' rfl) ?_; intro w8 N8 T8 m8)
      | fail)
     have hb8 := Below.mod (Below.allocS hbr (.cells (hcs hdZ (.slice none 0 0)).toArray 48)) m8 (by have := hbr.size; simp; omega) (by have := hbr.size; simp; omega)
     have r8 := N8.range
     go_wp2_with (first | (refine wpList_rowR row_head rfl (.tmp 6) rfl rfl (vs := hcs h (.slice ka h.skips.length kc)) rfl r8 ?_) | fail)
     refine (q8 _ hb8).mono ?_
     rintro e w9 ⟨rfl, hb⟩
     have hb9 := hb8.trans (hb.mono hb8.size)
     cases b5
     ·have g : (codeH false != 0) = true := by decide
      go_wp2_with fail
      all_goals (go_ret; exact ⟨rfl, hb9⟩)
     ·have g : (codeH true != 0) = false := by decide
      go_wp2_with fail
      exact ⟨⟨1, rfl, by omega, fun _ => (by first | rfl | trivial), Lib.hid hb9⟩, by simp [intOf]⟩
    ·obtain rfl : k = 1 := by omega
     have h5 := hk5 rfl
     subst h5
     clear hk5
     go_wp2_with fail
     all_goals (go_ret; exact ⟨by first | rfl | (simp; done), hbr⟩)
  ·have g1 : (ec != 0) = true := by simpa using hec
   have g2 : decide (ec = 0) = false := by simpa using hec
   clear hec
   go_wp2_with fail
   all_goals (go_ret; exact ⟨rfl, hb05⟩)
 ·go_wp2_with fail
  refine (q6 _).mono ?_
  rintro e w6 ⟨rfl, rfl⟩
  go_wp2_with fail
  refine (q7 _).mono ?_
  rintro e w7 ⟨rfl, hb⟩
  have hb07 := hb05.trans (hb.mono hb05.size)
  have B7 := Lib.hid (B0.keep hb)
  obtain ⟨c0, c1, c2, c3, c4, c5, c6, c7, c8, c9, c10⟩ := acs_cells B7.out
  have hs7 := hb07.size
  clear hb hb05 q3 q4 q5 q6 q7
  go_wp2_with fail
  go_loopw [78] (fun s78 wr => ∃ k : Nat, s78 = .int .i64 ((k : Int)) ∧ k ≤ 1 ∧ (k = 1 → b5 = true) ∧ Hid (Below w.heap.size w wr)) (fun s78 _ => 1 - (intOf s78).toNat)
  case atStart => exact ⟨0, rfl, by omega, fun h => absurd h (by decide), Lib.hid hb07⟩
  case round =>
   clear hb07 c0 c1 c2 c3 c4 c5 c6 c7 c8 c9 c10
   obtain ⟨k, rfl, hk, hk5, HB⟩ := hrel
   obtain ⟨wr, hwr⟩ := Below.name HB.out
   subst hwr
   have hbr := HB.out
   by_cases h0 : k = 0
   ·subst h0
    have hx : Below wr.heap.size wr (wr.alloc (.cells (hcs h (.slice ka h.skips.length kc)).toArray 48)) := Below.allocS (Below.refl _ _) _
    have r1 := (HK1.out.keep hbr).range
    clear hk5
    go_upto_region 9 with (first
     | (refine wpList_rowR row_head rfl (.tmp 80) rfl rfl (vs := hcs h (.slice ka h.skips.length kc)) rfl r1 ?_)
     | (refine wpList_rowStoreT row_head rfl rfl (.tmp 6) (.tmp 81) rfl rfl (vs := hcs h (.slice ka h.skips.length kc)) rfl rfl (hcs_one _ _ _ _) (us := hcs hdZ (.slice none 0 0)) rfl (Blk.new' rfl) (Typ.new' rfl) ?_; intro w8 N8 T8 m8)
     | fail)
    have hb8 := Below.mod (Below.allocS hbr (.cells (hcs hdZ (.slice none 0 0)).toArray 48)) m8 (by have := hbr.size; simp; omega) (by have := hbr.size; simp; omega)
    have r8 := N8.range
    go_wp2_with (first | (refine wpList_rowR row_head rfl (.tmp 6) rfl rfl (vs := hcs h (.slice ka h.skips.length kc)) rfl r8 ?_) | fail)
    refine (q8 _ hb8).mono ?_
    rintro e w9 ⟨rfl, hb⟩
    have hb9 := hb8.trans (hb.mono hb8.size)
    cases b5
    ·have g : (codeH false != 0) = true := by decide
     go_wp2_with fail
     all_goals (go_ret; exact ⟨rfl, hb9⟩)
    ·have g : (codeH true != 0) = false := by decide
     go_wp2_with fail
     exact ⟨⟨1, rfl, by omega, fun _ => (by first | rfl | trivial), Lib.hid hb9⟩, by simp [intOf]⟩
   ·obtain rfl : k = 1 := by omega
    have h5 := hk5 rfl
    subst h5
    clear hk5
    go_wp2_with fail
    all_goals (go_ret; exact ⟨by first | rfl | (simp; done), hbr⟩)
end Go.Proofs.YthkpmlfaddlieaaGreatDoor
namespace Go.Proofs.YthkpmlfaddlieaaGreatDoor
open Go.RowKit Go.Shelf Pl
def tlP (ht : Int) (h : Hd) (nx : List (Bs × Int)) (d : Bs) (ns : List Bs) : Bool := caP ht h nx d ns && decide (h.height = ht)
theorem atold_any (ht : Int) (h : Hd) (sk : Value) (nx : List (Bs × Int)) (d : Bs) (ns : List Bs) (hv nv sg : Value) (w : World) (hR : AnsR w h sk nx ns hv nv sg) :
  Calls Tryz.prog 49 #[.agg (acs ht hv nv d sg).toArray] w fun e w' => (tlP ht h nx d ns = true → e = .returned (.tuple #[.agg (hcs h sk).toArray, .bool true])) ∧ (tlP ht h nx d ns = false → e = .returned (.tuple #[.agg (hcs hdZ (.slice none 0 0)).toArray, .bool false])) ∧ Below w.heap.size w w' := by
 have B0 : Blk ((w.alloc (.cells (acs ht hv nv d sg).toArray 42)).alloc (.cells (hcs hdZ (.slice none 0 0)).toArray 48)) w.heap.size (acs ht hv nv d sg).toArray := (Blk.new _ _ _).alloc _
 have B2 : Blk ((w.alloc (.cells (acs ht hv nv d sg).toArray 42)).alloc (.cells (hcs hdZ (.slice none 0 0)).toArray 48)) (w.heap.size + 1) (hcs hdZ (.slice none 0 0)).toArray := Blk.new' (by simp)
 have T2 : Typ ((w.alloc (.cells (acs ht hv nv d sg).toArray 42)).alloc (.cells (hcs hdZ (.slice none 0 0)).toArray 48)) (w.heap.size + 1) 48 := Typ.new' (by simp)
 have hb0 : Below w.heap.size w ((w.alloc (.cells (acs ht hv nv d sg).toArray 42)).alloc (.cells (hcs hdZ (.slice none 0 0)).toArray 48)) := Below.allocS (Below.allocS (Below.refl _ _) _) _
 have hR0 := hR.keep hb0
 obtain ⟨⟨k1, rfl, K1⟩, _, _, hsk⟩ := id hR0
 obtain ⟨ka, kc, rfl⟩ := hsk.form
 have hbs := hb0.size
 by_cases hca : caP ht h nx d ns = true
 ·have qc : ∀ W, Below w.heap.size w W → Calls Tryz.prog 83 #[.agg (acs ht (.slice (some ⟨k1, 0, none⟩) 1 1) nv d sg).toArray] W fun e w' => e = .returned (.int .i64 0) ∧ Below W.heap.size W w' := fun W hW => by
   have := qchk_any ht h (.slice ka h.skips.length kc) nx d ns (.slice (some ⟨k1, 0, none⟩) 1 1) nv sg W (hR.keep hW)
   rw [hca] at this
   exact this
  by_cases hh : h.height = ht
  ·have HF : tlP ht h nx d ns = true := by unfold tlP; rw [hca, hh]; simp
   have g1 : (h.height != ht) = false := by simpa using hh
   clear hh hca
   go_enter Tryz.func49, Tryz.ntmps49
   go_wp2_with fail
   refine wpH_start (by kernel_rfl) (fun hS => ?_)
   refine wpH_row row_ans 0 (oi := ⟨some 4,.load 42 (.tmp 1),42,"accept.go:26",#[],none⟩) rfl (by kernel_rfl) (by kernel_rfl) (by kernel_rfl) (by rfl) hS (vs := acs ht (.slice (some ⟨k1, 0, none⟩) 1 1) nv d sg) (fun _ _ _ h => h) (.tmp 1) rfl rfl (rfl) (fun w' hb2 => B0.keep hb2) ?_
   try simp only [pna, pnb, pnc, pnd, pne]
   refine wpH_call 1 (oi := ⟨some 5,.call { callee := .value (.func 83), args := #[.tmp 4], argTypes := #[42] },34,"accept.go:26",#[⟨0,.data⟩],none⟩) rfl (by kernel_rfl) (by rfl) (qc _ (hb0.trans (hS.mono hb0.size))) ?_ ?_
   ·(go_simp; try rfl)
   rintro e w' ⟨rfl, hbx⟩
   refine ⟨_, rfl, hS.trans (hbx.mono hS.size), ?_⟩
   replace hS := hS.trans (hbx.mono hS.size)
   try simp only [pna, pnb, pnc, pnd, pne]
   (refine hP 2 ?_ ⟨some 6, .binOp .neq 34 (.tmp 5) (.const (.int .i64 0)) 34, 4, "", #[], none⟩ hS ?_ ?_; rotate_left; focus (intro w; go_simp; try with_reducible rfl))
   try simp only [pna, pnb, pnc, pnd, pne]
   (refine hP 3 ?_ ⟨some 7, .move (.tmp 6), 4, "", #[], none⟩ hS ?_ ?_; rotate_left; focus (intro w; go_simp; try with_reducible rfl))
   try simp only [pna, pnb, pnc, pnd, pne]
   (first | (refine hN 4 ⟨some 8, .fieldAddr 42 (.tmp 1) 0, 0, "", #[], some (3, false)⟩ hS ?_) | (refine hP 4 ?_ ⟨some 8, .fieldAddr 42 (.tmp 1) 0, 0, "", #[], some (3, false)⟩ hS ?_ ?_; rotate_left; focus (intro w; go_simp; try with_reducible rfl)))
   try simp only [pna, pnb, pnc, pnd, pne]
   refine wpH_load 5 (.int .i64 0) (oi := ⟨some 9,.load 34 (.tmp 8),34,"accept.go:26",#[⟨4,.data⟩, ⟨3,.guard⟩],some (3, false)⟩) rfl (by kernel_rfl) (by kernel_rfl) (by kernel_rfl) (by rfl) hS (fun _ _ _ h => h) (fun w' hb2 => (by have c := (B0.keep hb2).cell 0; simp only [acs, List.getElem?_toArray, List.getElem?_cons_zero, List.getElem?_cons_succ] at c; go_simp; try rfl)) ?_
   try simp only [pna, pnb, pnc, pnd, pne]
   (first | (refine hN 6 ⟨some 10, .binOp .neq 34 (.tmp 9) (.const (.int .i64 0)) 34, 4, "", #[], some (3, false)⟩ hS ?_) | (refine hP 6 ?_ ⟨some 10, .binOp .neq 34 (.tmp 9) (.const (.int .i64 0)) 34, 4, "", #[], some (3, false)⟩ hS ?_ ?_; rotate_left; focus (intro w; go_simp; try with_reducible rfl)))
   try simp only [pna, pnb, pnc, pnd, pne]
   (refine hP 7 ?_ ⟨some 11, .pick (.tmp 7) (.const (.bool true)) (.tmp 10), 4, "", #[], none⟩ hS ?_ ?_; rotate_left; focus (intro w; go_simp; try with_reducible rfl))
   try simp only [pna, pnb, pnc, pnd, pne]
   (refine hP 8 ?_ ⟨some 12, .move (.tmp 11), 4, "", #[], none⟩ hS ?_ ?_; rotate_left; focus (intro w; go_simp; try with_reducible rfl))
   try simp only [pna, pnb, pnc, pnd, pne]
   (first | (refine hN 9 ⟨some 13, .fieldAddr 42 (.tmp 1) 2, 0, "", #[], some (8, false)⟩ hS ?_) | (refine hP 9 ?_ ⟨some 13, .fieldAddr 42 (.tmp 1) 2, 0, "", #[], some (8, false)⟩ hS ?_ ?_; rotate_left; focus (intro w; go_simp; try with_reducible rfl)))
   try simp only [pna, pnb, pnc, pnd, pne]
   refine wpH_load 10 (.slice (some ⟨k1, 0, none⟩) 1 1) (oi := ⟨some 14,.load 35 (.tmp 13),35,"accept.go:26",#[⟨9,.data⟩, ⟨8,.guard⟩],some (8, false)⟩) rfl (by kernel_rfl) (by kernel_rfl) (by kernel_rfl) (by rfl) hS (fun _ _ _ h => h) (fun w' hb2 => (by have c := (B0.keep hb2).cell 2; simp only [acs, List.getElem?_toArray, List.getElem?_cons_zero, List.getElem?_cons_succ] at c; go_simp; try rfl)) ?_
   try simp only [pna, pnb, pnc, pnd, pne]
   (first | (refine hN 11 ⟨some 15, .call { callee := .builtin .len, args := #[.tmp 14], argTypes := #[35] }, 3, "", #[], some (8, false)⟩ hS ?_) | (refine hP 11 ?_ ⟨some 15, .call { callee := .builtin .len, args := #[.tmp 14], argTypes := #[35] }, 3, "", #[], some (8, false)⟩ hS ?_ ?_; rotate_left; focus (intro w; go_simp; try with_reducible rfl)))
   try simp only [pna, pnb, pnc, pnd, pne]
   (first | (refine hN 12 ⟨some 16, .binOp .neq 3 (.tmp 15) (.const (.int .i64 1)) 3, 4, "", #[], some (8, false)⟩ hS ?_) | (refine hP 12 ?_ ⟨some 16, .binOp .neq 3 (.tmp 15) (.const (.int .i64 1)) 3, 4, "", #[], some (8, false)⟩ hS ?_ ?_; rotate_left; focus (intro w; go_simp; try with_reducible rfl)))
   try simp only [pna, pnb, pnc, pnd, pne]
   (refine hP 13 ?_ ⟨some 17, .pick (.tmp 12) (.const (.bool true)) (.tmp 16), 4, "", #[], none⟩ hS ?_ ?_; rotate_left; focus (intro w; go_simp; try with_reducible rfl))
   try simp only [pna, pnb, pnc, pnd, pne]
   (refine hP 14 ?_ ⟨some 18, .move (.tmp 17), 4, "", #[], none⟩ hS ?_ ?_; rotate_left; focus (intro w; go_simp; try with_reducible rfl))
   try simp only [pna, pnb, pnc, pnd, pne]
   (first | (refine hN 15 ⟨some 19, .fieldAddr 42 (.tmp 1) 2, 0, "", #[], some (14, false)⟩ hS ?_) | (refine hP 15 ?_ ⟨some 19, .fieldAddr 42 (.tmp 1) 2, 0, "", #[], some (14, false)⟩ hS ?_ ?_; rotate_left; focus (intro w; go_simp; try with_reducible rfl)))
   try simp only [pna, pnb, pnc, pnd, pne]
   refine wpH_load 16 (.slice (some ⟨k1, 0, none⟩) 1 1) (oi := ⟨some 20,.load 35 (.tmp 19),35,"accept.go:26",#[⟨15,.data⟩, ⟨14,.guard⟩],some (14, false)⟩) rfl (by kernel_rfl) (by kernel_rfl) (by kernel_rfl) (by rfl) hS (fun _ _ _ h => h) (fun w' hb2 => (by have c := (B0.keep hb2).cell 2; simp only [acs, List.getElem?_toArray, List.getElem?_cons_zero, List.getElem?_cons_succ] at c; go_simp; try rfl)) ?_
   try simp only [pna, pnb, pnc, pnd, pne]
   (first | (refine hN 17 ⟨some 21, .indexAddr 35 (.tmp 20) (.const (.int .i64 0)), 0, "", #[], some (14, false)⟩ hS ?_) | (refine hP 17 ?_ ⟨some 21, .indexAddr 35 (.tmp 20) (.const (.int .i64 0)), 0, "", #[], some (14, false)⟩ hS ?_ ?_; rotate_left; focus (intro w; go_simp; try with_reducible rfl)))
   try simp only [pna, pnb, pnc, pnd, pne]
   (first | (refine hN 18 ⟨some 22, .fieldAddr 48 (.tmp 21) 0, 0, "", #[], some (14, false)⟩ hS ?_) | (refine hP 18 ?_ ⟨some 22, .fieldAddr 48 (.tmp 21) 0, 0, "", #[], some (14, false)⟩ hS ?_ ?_; rotate_left; focus (intro w; go_simp; try with_reducible rfl)))
   try simp only [pna, pnb, pnc, pnd, pne]
   refine wpH_load 19 (.int .i64 h.height) (oi := ⟨some 23,.load 3 (.tmp 22),3,"accept.go:26",#[⟨18,.data⟩, ⟨14,.guard⟩],some (14, false)⟩) rfl (by kernel_rfl) (by kernel_rfl) (by kernel_rfl) (by rfl) hS (fun _ _ _ h => h) (fun w' hb2 => (by have c := (K1.keep hb2).cell 0; simp only [hcs, List.getElem?_toArray, List.getElem?_cons_zero, List.getElem?_cons_succ] at c; go_simp; try rfl)) ?_
   try simp only [pna, pnb, pnc, pnd, pne]
   (first | (refine hN 20 ⟨some 24, .fieldAddr 42 (.tmp 1) 1, 0, "", #[], some (14, false)⟩ hS ?_) | (refine hP 20 ?_ ⟨some 24, .fieldAddr 42 (.tmp 1) 1, 0, "", #[], some (14, false)⟩ hS ?_ ?_; rotate_left; focus (intro w; go_simp; try with_reducible rfl)))
   try simp only [pna, pnb, pnc, pnd, pne]
   refine wpH_load 21 (.int .i64 ht) (oi := ⟨some 25,.load 3 (.tmp 24),3,"accept.go:26",#[⟨20,.data⟩, ⟨14,.guard⟩],some (14, false)⟩) rfl (by kernel_rfl) (by kernel_rfl) (by kernel_rfl) (by rfl) hS (fun _ _ _ h => h) (fun w' hb2 => (by have c := (B0.keep hb2).cell 1; simp only [acs, List.getElem?_toArray, List.getElem?_cons_zero, List.getElem?_cons_succ] at c; go_simp; try rfl)) ?_
   try simp only [pna, pnb, pnc, pnd, pne]
   (first | (refine hN 22 ⟨some 26, .binOp .neq 3 (.tmp 23) (.tmp 25) 3, 4, "", #[], some (14, false)⟩ hS ?_) | (refine hP 22 ?_ ⟨some 26, .binOp .neq 3 (.tmp 23) (.tmp 25) 3, 4, "", #[], some (14, false)⟩ hS ?_ ?_; rotate_left; focus (intro w; go_simp; try with_reducible rfl)))
   try simp only [pna, pnb, pnc, pnd, pne]
   (refine hP 23 ?_ ⟨some 27, .pick (.tmp 18) (.const (.bool true)) (.tmp 26), 4, "", #[], none⟩ hS ?_ ?_; rotate_left; focus (intro w; go_simp; try with_reducible rfl))
   try simp only [pna, pnb, pnc, pnd, pne]
   refine wpAnyH_done (by kernel_rfl) ?_ _
   obtain ⟨w3, hw3⟩ := Below.name hS
   subst hw3
   have hb3 := hb0.trans (hS.mono hb0.size)
   have B2 := B2.keep hS
   have T2 := T2.keep hS
   have K3 := (K1.keep hS).range
   have c2 := (B0.keep hS).cell 2
   simp only [acs, List.getElem?_toArray, List.getElem?_cons_zero, List.getElem?_cons_succ] at c2
   go_wp2_with (first
    | (refine wpList_rowR row_head rfl (.tmp 31) rfl rfl (vs := hcs h (.slice ka h.skips.length kc)) rfl K3 ?_)
    | (refine wpList_rowStoreT row_head rfl rfl (.tmp 2) (.tmp 32) rfl rfl (vs := hcs h (.slice ka h.skips.length kc)) rfl rfl (hcs_one _ _ _ _) (us := hcs hdZ (.slice none 0 0)) rfl B2 T2 ?_; intro w4 N4 T4 m4)
    | fail)
   refine bodyPost_ret (results_cell_tmp2 rfl _ _ _ _ rfl (row_loadVar row_head _ rfl N4)) rfl ?_
   exact ⟨fun _ => rfl, fun e => (by rw [HF] at e; cases e), Below.mod hb3 m4 hb3.size (by simp)⟩
  ·have HF : tlP ht h nx d ns = false := by unfold tlP; rw [hca]; simp [hh]
   have g1 : (h.height != ht) = true := by simpa using hh
   clear hh hca
   go_enter Tryz.func49, Tryz.ntmps49
   go_wp2_with fail
   refine wpH_start (by kernel_rfl) (fun hS => ?_)
   refine wpH_row row_ans 0 (oi := ⟨some 4,.load 42 (.tmp 1),42,"accept.go:26",#[],none⟩) rfl (by kernel_rfl) (by kernel_rfl) (by kernel_rfl) (by rfl) hS (vs := acs ht (.slice (some ⟨k1, 0, none⟩) 1 1) nv d sg) (fun _ _ _ h => h) (.tmp 1) rfl rfl (rfl) (fun w' hb2 => B0.keep hb2) ?_
   try simp only [pna, pnb, pnc, pnd, pne]
   refine wpH_call 1 (oi := ⟨some 5,.call { callee := .value (.func 83), args := #[.tmp 4], argTypes := #[42] },34,"accept.go:26",#[⟨0,.data⟩],none⟩) rfl (by kernel_rfl) (by rfl) (qc _ (hb0.trans (hS.mono hb0.size))) ?_ ?_
   ·(go_simp; try rfl)
   rintro e w' ⟨rfl, hbx⟩
   refine ⟨_, rfl, hS.trans (hbx.mono hS.size), ?_⟩
   replace hS := hS.trans (hbx.mono hS.size)
   try simp only [pna, pnb, pnc, pnd, pne]
   (refine hP 2 ?_ ⟨some 6, .binOp .neq 34 (.tmp 5) (.const (.int .i64 0)) 34, 4, "", #[], none⟩ hS ?_ ?_; rotate_left; focus (intro w; go_simp; try with_reducible rfl))
   try simp only [pna, pnb, pnc, pnd, pne]
   (refine hP 3 ?_ ⟨some 7, .move (.tmp 6), 4, "", #[], none⟩ hS ?_ ?_; rotate_left; focus (intro w; go_simp; try with_reducible rfl))
   try simp only [pna, pnb, pnc, pnd, pne]
   (first | (refine hN 4 ⟨some 8, .fieldAddr 42 (.tmp 1) 0, 0, "", #[], some (3, false)⟩ hS ?_) | (refine hP 4 ?_ ⟨some 8, .fieldAddr 42 (.tmp 1) 0, 0, "", #[], some (3, false)⟩ hS ?_ ?_; rotate_left; focus (intro w; go_simp; try with_reducible rfl)))
   try simp only [pna, pnb, pnc, pnd, pne]
   refine wpH_load 5 (.int .i64 0) (oi := ⟨some 9,.load 34 (.tmp 8),34,"accept.go:26",#[⟨4,.data⟩, ⟨3,.guard⟩],some (3, false)⟩) rfl (by kernel_rfl) (by kernel_rfl) (by kernel_rfl) (by rfl) hS (fun _ _ _ h => h) (fun w' hb2 => (by have c := (B0.keep hb2).cell 0; simp only [acs, List.getElem?_toArray, List.getElem?_cons_zero, List.getElem?_cons_succ] at c; go_simp; try rfl)) ?_
   try simp only [pna, pnb, pnc, pnd, pne]
   (first | (refine hN 6 ⟨some 10, .binOp .neq 34 (.tmp 9) (.const (.int .i64 0)) 34, 4, "", #[], some (3, false)⟩ hS ?_) | (refine hP 6 ?_ ⟨some 10, .binOp .neq 34 (.tmp 9) (.const (.int .i64 0)) 34, 4, "", #[], some (3, false)⟩ hS ?_ ?_; rotate_left; focus (intro w; go_simp; try with_reducible rfl)))
   try simp only [pna, pnb, pnc, pnd, pne]
   (refine hP 7 ?_ ⟨some 11, .pick (.tmp 7) (.const (.bool true)) (.tmp 10), 4, "", #[], none⟩ hS ?_ ?_; rotate_left; focus (intro w; go_simp; try with_reducible rfl))
   try simp only [pna, pnb, pnc, pnd, pne]
   (refine hP 8 ?_ ⟨some 12, .move (.tmp 11), 4, "", #[], none⟩ hS ?_ ?_; rotate_left; focus (intro w; go_simp; try with_reducible rfl))
   try simp only [pna, pnb, pnc, pnd, pne]
   (first | (refine hN 9 ⟨some 13, .fieldAddr 42 (.tmp 1) 2, 0, "", #[], some (8, false)⟩ hS ?_) | (refine hP 9 ?_ ⟨some 13, .fieldAddr 42 (.tmp 1) 2, 0, "", #[], some (8, false)⟩ hS ?_ ?_; rotate_left; focus (intro w; go_simp; try with_reducible rfl)))
   try simp only [pna, pnb, pnc, pnd, pne]
   refine wpH_load 10 (.slice (some ⟨k1, 0, none⟩) 1 1) (oi := ⟨some 14,.load 35 (.tmp 13),35,"accept.go:26",#[⟨9,.data⟩, ⟨8,.guard⟩],some (8, false)⟩) rfl (by kernel_rfl) (by kernel_rfl) (by kernel_rfl) (by rfl) hS (fun _ _ _ h => h) (fun w' hb2 => (by have c := (B0.keep hb2).cell 2; simp only [acs, List.getElem?_toArray, List.getElem?_cons_zero, List.getElem?_cons_succ] at c; go_simp; try rfl)) ?_
   try simp only [pna, pnb, pnc, pnd, pne]
   (first | (refine hN 11 ⟨some 15, .call { callee := .builtin .len, args := #[.tmp 14], argTypes := #[35] }, 3, "", #[], some (8, false)⟩ hS ?_) | (refine hP 11 ?_ ⟨some 15, .call { callee := .builtin .len, args := #[.tmp 14], argTypes := #[35] }, 3, "", #[], some (8, false)⟩ hS ?_ ?_; rotate_left; focus (intro w; go_simp; try with_reducible rfl)))
   try simp only [pna, pnb, pnc, pnd, pne]
   (first | (refine hN 12 ⟨some 16, .binOp .neq 3 (.tmp 15) (.const (.int .i64 1)) 3, 4, "", #[], some (8, false)⟩ hS ?_) | (refine hP 12 ?_ ⟨some 16, .binOp .neq 3 (.tmp 15) (.const (.int .i64 1)) 3, 4, "", #[], some (8, false)⟩ hS ?_ ?_; rotate_left; focus (intro w; go_simp; try with_reducible rfl)))
   try simp only [pna, pnb, pnc, pnd, pne]
   (refine hP 13 ?_ ⟨some 17, .pick (.tmp 12) (.const (.bool true)) (.tmp 16), 4, "", #[], none⟩ hS ?_ ?_; rotate_left; focus (intro w; go_simp; try with_reducible rfl))
   try simp only [pna, pnb, pnc, pnd, pne]
   (refine hP 14 ?_ ⟨some 18, .move (.tmp 17), 4, "", #[], none⟩ hS ?_ ?_; rotate_left; focus (intro w; go_simp; try with_reducible rfl))
   try simp only [pna, pnb, pnc, pnd, pne]
   (first | (refine hN 15 ⟨some 19, .fieldAddr 42 (.tmp 1) 2, 0, "", #[], some (14, false)⟩ hS ?_) | (refine hP 15 ?_ ⟨some 19, .fieldAddr 42 (.tmp 1) 2, 0, "", #[], some (14, false)⟩ hS ?_ ?_; rotate_left; focus (intro w; go_simp; try with_reducible rfl)))
   try simp only [pna, pnb, pnc, pnd, pne]
   refine wpH_load 16 (.slice (some ⟨k1, 0, none⟩) 1 1) (oi := ⟨some 20,.load 35 (.tmp 19),35,"accept.go:26",#[⟨15,.data⟩, ⟨14,.guard⟩],some (14, false)⟩) rfl (by kernel_rfl) (by kernel_rfl) (by kernel_rfl) (by rfl) hS (fun _ _ _ h => h) (fun w' hb2 => (by have c := (B0.keep hb2).cell 2; simp only [acs, List.getElem?_toArray, List.getElem?_cons_zero, List.getElem?_cons_succ] at c; go_simp; try rfl)) ?_
   try simp only [pna, pnb, pnc, pnd, pne]
   (first | (refine hN 17 ⟨some 21, .indexAddr 35 (.tmp 20) (.const (.int .i64 0)), 0, "", #[], some (14, false)⟩ hS ?_) | (refine hP 17 ?_ ⟨some 21, .indexAddr 35 (.tmp 20) (.const (.int .i64 0)), 0, "", #[], some (14, false)⟩ hS ?_ ?_; rotate_left; focus (intro w; go_simp; try with_reducible rfl)))
   try simp only [pna, pnb, pnc, pnd, pne]
   (first | (refine hN 18 ⟨some 22, .fieldAddr 48 (.tmp 21) 0, 0, "", #[], some (14, false)⟩ hS ?_) | (refine hP 18 ?_ ⟨some 22, .fieldAddr 48 (.tmp 21) 0, 0, "", #[], some (14, false)⟩ hS ?_ ?_; rotate_left; focus (intro w; go_simp; try with_reducible rfl)))
   try simp only [pna, pnb, pnc, pnd, pne]
   refine wpH_load 19 (.int .i64 h.height) (oi := ⟨some 23,.load 3 (.tmp 22),3,"accept.go:26",#[⟨18,.data⟩, ⟨14,.guard⟩],some (14, false)⟩) rfl (by kernel_rfl) (by kernel_rfl) (by kernel_rfl) (by rfl) hS (fun _ _ _ h => h) (fun w' hb2 => (by have c := (K1.keep hb2).cell 0; simp only [hcs, List.getElem?_toArray, List.getElem?_cons_zero, List.getElem?_cons_succ] at c; go_simp; try rfl)) ?_
   try simp only [pna, pnb, pnc, pnd, pne]
   (first | (refine hN 20 ⟨some 24, .fieldAddr 42 (.tmp 1) 1, 0, "", #[], some (14, false)⟩ hS ?_) | (refine hP 20 ?_ ⟨some 24, .fieldAddr 42 (.tmp 1) 1, 0, "", #[], some (14, false)⟩ hS ?_ ?_; rotate_left; focus (intro w; go_simp; try with_reducible rfl)))
   try simp only [pna, pnb, pnc, pnd, pne]
   refine wpH_load 21 (.int .i64 ht) (oi := ⟨some 25,.load 3 (.tmp 24),3,"accept.go:26",#[⟨20,.data⟩, ⟨14,.guard⟩],some (14, false)⟩) rfl (by kernel_rfl) (by kernel_rfl) (by kernel_rfl) (by rfl) hS (fun _ _ _ h => h) (fun w' hb2 => (by have c := (B0.keep hb2).cell 1; simp only [acs, List.getElem?_toArray, List.getElem?_cons_zero, List.getElem?_cons_succ] at c; go_simp; try rfl)) ?_
   try simp only [pna, pnb, pnc, pnd, pne]
   (first | (refine hN 22 ⟨some 26, .binOp .neq 3 (.tmp 23) (.tmp 25) 3, 4, "", #[], some (14, false)⟩ hS ?_) | (refine hP 22 ?_ ⟨some 26, .binOp .neq 3 (.tmp 23) (.tmp 25) 3, 4, "", #[], some (14, false)⟩ hS ?_ ?_; rotate_left; focus (intro w; go_simp; try with_reducible rfl)))
   try simp only [pna, pnb, pnc, pnd, pne]
   (refine hP 23 ?_ ⟨some 27, .pick (.tmp 18) (.const (.bool true)) (.tmp 26), 4, "", #[], none⟩ hS ?_ ?_; rotate_left; focus (intro w; go_simp; try with_reducible rfl))
   try simp only [pna, pnb, pnc, pnd, pne]
   refine wpAnyH_done (by kernel_rfl) ?_ _
   obtain ⟨w3, hw3⟩ := Below.name hS
   subst hw3
   have hb3 := hb0.trans (hS.mono hb0.size)
   have B2 := B2.keep hS
   have T2 := T2.keep hS
   have K3 := (K1.keep hS).range
   have c2 := (B0.keep hS).cell 2
   simp only [acs, List.getElem?_toArray, List.getElem?_cons_zero, List.getElem?_cons_succ] at c2
   go_wp2_with (first
    | (refine wpList_rowStoreT row_head rfl rfl (.tmp 2) (.tmp 28) rfl rfl (vs := hcs hdZ (.slice none 0 0)) rfl rfl (hcs_one _ _ _ _) (us := hcs hdZ (.slice none 0 0)) rfl B2 T2 ?_; intro w4 N4 T4 m4)
    | fail)
   refine bodyPost_ret (results_cell_tmp2 rfl _ _ _ _ rfl (row_loadVar row_head _ rfl N4)) rfl ?_
   exact ⟨fun e => (by rw [HF] at e; cases e), fun _ => rfl, Below.mod hb3 m4 hb3.size (by simp)⟩
 ·have HF : tlP ht h nx d ns = false := by unfold tlP; simp [hca]
  have qc : ∀ W, Below w.heap.size w W → Calls Tryz.prog 83 #[.agg (acs ht (.slice (some ⟨k1, 0, none⟩) 1 1) nv d sg).toArray] W fun e w' => e = .returned (.int .i64 290) ∧ Below W.heap.size W w' := fun W hW => by
   have := qchk_any ht h (.slice ka h.skips.length kc) nx d ns (.slice (some ⟨k1, 0, none⟩) 1 1) nv sg W (hR.keep hW)
   rw [if_neg hca] at this
   exact this
  clear hca
  go_enter Tryz.func49, Tryz.ntmps49
  go_wp2_with fail
  refine wpH_start (by kernel_rfl) (fun hS => ?_)
  refine wpH_row row_ans 0 (oi := ⟨some 4,.load 42 (.tmp 1),42,"accept.go:26",#[],none⟩) rfl (by kernel_rfl) (by kernel_rfl) (by kernel_rfl) (by rfl) hS (vs := acs ht (.slice (some ⟨k1, 0, none⟩) 1 1) nv d sg) (fun _ _ _ h => h) (.tmp 1) rfl rfl (rfl) (fun w' hb2 => B0.keep hb2) ?_
  try simp only [pna, pnb, pnc, pnd, pne]
  refine wpH_call 1 (oi := ⟨some 5,.call { callee := .value (.func 83), args := #[.tmp 4], argTypes := #[42] },34,"accept.go:26",#[⟨0,.data⟩],none⟩) rfl (by kernel_rfl) (by rfl) (qc _ (hb0.trans (hS.mono hb0.size))) ?_ ?_
  ·(go_simp; try rfl)
  rintro e w' ⟨rfl, hbx⟩
  refine ⟨_, rfl, hS.trans (hbx.mono hS.size), ?_⟩
  replace hS := hS.trans (hbx.mono hS.size)
  try simp only [pna, pnb, pnc, pnd, pne]
  (refine hP 2 ?_ ⟨some 6, .binOp .neq 34 (.tmp 5) (.const (.int .i64 0)) 34, 4, "", #[], none⟩ hS ?_ ?_; rotate_left; focus (intro w; go_simp; try with_reducible rfl))
  try simp only [pna, pnb, pnc, pnd, pne]
  (refine hP 3 ?_ ⟨some 7, .move (.tmp 6), 4, "", #[], none⟩ hS ?_ ?_; rotate_left; focus (intro w; go_simp; try with_reducible rfl))
  try simp only [pna, pnb, pnc, pnd, pne]
  refine hN 4 ⟨some 8, .fieldAddr 42 (.tmp 1) 0, 0, "", #[], some (3, false)⟩ hS ?_
  try simp only [pna, pnb, pnc, pnd, pne]
  refine hN 5 ⟨some 9, .load 34 (.tmp 8), 34, "", #[], some (3, false)⟩ hS ?_
  try simp only [pna, pnb, pnc, pnd, pne]
  refine hN 6 ⟨some 10, .binOp .neq 34 (.tmp 9) (.const (.int .i64 0)) 34, 4, "", #[], some (3, false)⟩ hS ?_
  try simp only [pna, pnb, pnc, pnd, pne]
  (refine hP 7 ?_ ⟨some 11, .pick (.tmp 7) (.const (.bool true)) (.tmp 10), 4, "", #[], none⟩ hS ?_ ?_; rotate_left; focus (intro w; go_simp; try with_reducible rfl))
  try simp only [pna, pnb, pnc, pnd, pne]
  (refine hP 8 ?_ ⟨some 12, .move (.tmp 11), 4, "", #[], none⟩ hS ?_ ?_; rotate_left; focus (intro w; go_simp; try with_reducible rfl))
  try simp only [pna, pnb, pnc, pnd, pne]
  refine hN 9 ⟨some 13, .fieldAddr 42 (.tmp 1) 2, 0, "", #[], some (8, false)⟩ hS ?_
  try simp only [pna, pnb, pnc, pnd, pne]
  refine hN 10 ⟨some 14, .load 35 (.tmp 13), 35, "", #[], some (8, false)⟩ hS ?_
  try simp only [pna, pnb, pnc, pnd, pne]
  refine hN 11 ⟨some 15, .call { callee := .builtin .len, args := #[.tmp 14], argTypes := #[35] }, 3, "", #[], some (8, false)⟩ hS ?_
  try simp only [pna, pnb, pnc, pnd, pne]
  refine hN 12 ⟨some 16, .binOp .neq 3 (.tmp 15) (.const (.int .i64 1)) 3, 4, "", #[], some (8, false)⟩ hS ?_
  try simp only [pna, pnb, pnc, pnd, pne]
  (refine hP 13 ?_ ⟨some 17, .pick (.tmp 12) (.const (.bool true)) (.tmp 16), 4, "", #[], none⟩ hS ?_ ?_; rotate_left; focus (intro w; go_simp; try with_reducible rfl))
  try simp only [pna, pnb, pnc, pnd, pne]
  (refine hP 14 ?_ ⟨some 18, .move (.tmp 17), 4, "", #[], none⟩ hS ?_ ?_; rotate_left; focus (intro w; go_simp; try with_reducible rfl))
  try simp only [pna, pnb, pnc, pnd, pne]
  refine hN 15 ⟨some 19, .fieldAddr 42 (.tmp 1) 2, 0, "", #[], some (14, false)⟩ hS ?_
  try simp only [pna, pnb, pnc, pnd, pne]
  refine hN 16 ⟨some 20, .load 35 (.tmp 19), 35, "", #[], some (14, false)⟩ hS ?_
  try simp only [pna, pnb, pnc, pnd, pne]
  refine hN 17 ⟨some 21, .indexAddr 35 (.tmp 20) (.const (.int .i64 0)), 0, "", #[], some (14, false)⟩ hS ?_
  try simp only [pna, pnb, pnc, pnd, pne]
  refine hN 18 ⟨some 22, .fieldAddr 48 (.tmp 21) 0, 0, "", #[], some (14, false)⟩ hS ?_
  try simp only [pna, pnb, pnc, pnd, pne]
  refine hN 19 ⟨some 23, .load 3 (.tmp 22), 3, "", #[], some (14, false)⟩ hS ?_
  try simp only [pna, pnb, pnc, pnd, pne]
  refine hN 20 ⟨some 24, .fieldAddr 42 (.tmp 1) 1, 0, "", #[], some (14, false)⟩ hS ?_
  try simp only [pna, pnb, pnc, pnd, pne]
  refine hN 21 ⟨some 25, .load 3 (.tmp 24), 3, "", #[], some (14, false)⟩ hS ?_
  try simp only [pna, pnb, pnc, pnd, pne]
  refine hN 22 ⟨some 26, .binOp .neq 3 (.tmp 23) (.tmp 25) 3, 4, "", #[], some (14, false)⟩ hS ?_
  try simp only [pna, pnb, pnc, pnd, pne]
  (refine hP 23 ?_ ⟨some 27, .pick (.tmp 18) (.const (.bool true)) (.tmp 26), 4, "", #[], none⟩ hS ?_ ?_; rotate_left; focus (intro w; go_simp; try with_reducible rfl))
  try simp only [pna, pnb, pnc, pnd, pne]
  refine wpAnyH_done (by kernel_rfl) ?_ _
  obtain ⟨w3, hw3⟩ := Below.name hS
  subst hw3
  have hb3 := hb0.trans (hS.mono hb0.size)
  have B2 := B2.keep hS
  have T2 := T2.keep hS
  have K3 := (K1.keep hS).range
  go_wp2_with (first
   | (refine wpList_rowStoreT row_head rfl rfl (.tmp 2) (.tmp 28) rfl rfl (vs := hcs hdZ (.slice none 0 0)) rfl rfl (hcs_one _ _ _ _) (us := hcs hdZ (.slice none 0 0)) rfl B2 T2 ?_; intro w4 N4 T4 m4)
   | fail)
  refine bodyPost_ret (results_cell_tmp2 rfl _ _ _ _ rfl (row_loadVar row_head _ rfl N4)) rfl ?_
  exact ⟨fun e => (by rw [HF] at e; cases e), fun _ => rfl, Below.mod hb3 m4 hb3.size (by simp)⟩
end Go.Proofs.YthkpmlfaddlieaaGreatDoor
namespace Go.Proofs.YthkpmlfaddlieaaGreatDoor
open Go.RowKit Go.Shelf Pl
def idxI (l : List Int) (x : Int) : Int := if l.findIdx (fun y => decide (y = x)) < l.length then (l.findIdx (fun y => decide (y = x)) : Int) else -1
theorem idxI_at {l : List Int} {x : Int} {k : Nat} (hk : k < l.length) (h : l.getD k 0 = x) (hn : ∀ i, i < k → l.getD i 0 ≠ x) : idxI l x = k := by
 have e : l.findIdx (fun y => decide (y = x)) = k := by
  rw [List.findIdx_eq hk]
  rw [List.getD_eq_getElem?_getD, List.getElem?_eq_getElem hk] at h
  refine ⟨by simpa using h, fun j hj => ?_⟩
  have := hn j hj
  rw [List.getD_eq_getElem?_getD, List.getElem?_eq_getElem (by omega)] at this
  simpa using this
 unfold idxI
 rw [e, if_pos hk]
theorem idxI_no {l : List Int} {x : Int} (hn : ∀ i, i < l.length → l.getD i 0 ≠ x) : idxI l x = -1 := by
 have e : l.findIdx (fun y => decide (y = x)) = l.length := by
  rw [List.findIdx_eq_length]
  intro y hy
  obtain ⟨i, hi, rfl⟩ := List.getElem_of_mem hy
  have := hn i hi
  rw [List.getD_eq_getElem?_getD, List.getElem?_eq_getElem hi] at this
  simpa using this
 unfold idxI
 rw [e, if_neg (Nat.lt_irrefl _)]
theorem idxI_lt (l : List Int) (x : Int) : idxI l x < 0 ∨ (0 ≤ idxI l x ∧ idxI l x < l.length) := by
 unfold idxI
 split
 ·right; omega
 ·left; omega
theorem index_any (b : Nat) (v : Value) (l : List Int) (x : Int) (w : World) (hv : ZRow w b v l) (hl : l.length ≤ 1000) :
  Calls Tryz.prog 85 #[v, .int .i64 x] w fun e w' => e = .returned (.int .i64 (idxI l x)) ∧ w' = w := by
 obtain ⟨a, c, rfl⟩ := hv.form
 have HV := Lib.hid hv
 clear hv
 go_enter Tryz.func85, Tryz.ntmps85
 go_wp2_with fail
 go_loopw [8] (fun s8 wr => ∃ k : Nat, s8 = .int .i64 ((k : Int)) ∧ k ≤ l.length ∧ (∀ i, i < k → l.getD i 0 ≠ x) ∧ wr = w) (fun s8 _ => l.length - (intOf s8).toNat)
 case atStart => exact ⟨0, rfl, by omega, fun i hi => absurd hi (by omega), rfl⟩
 case round =>
  obtain ⟨k, rfl, hk, hn, rfl⟩ := hrel
  by_cases hkl : k < l.length
  ·have k1 : decide ((k : Int) < (l.length : Int)) = true := by simp; omega
   have k2 : (k : Int) < (l.length : Int) := by omega
   rcases HV.out.cells with ⟨e, e2⟩ | ⟨g, cap, e, _, _, _, _, hc, _⟩
   ·rw [e2] at hkl; simp at hkl
   injection e with e1 e2 e3
   subst e1
   have ck := hc k hkl
   have HN := Lib.hid hn
   have hid := fun (h : l.getD k 0 = x) => idxI_at hkl h hn
   have hgx := Lib.hid (fun (h : l.getD k 0 ≠ x) => (fun i (hi : i < k + 1) => (by
    rcases (show i < k ∨ i = k from by omega) with h1 | h1
    ·exact hn i h1
    ·subst h1; exact h) : ∀ i, i < k + 1 → l.getD i 0 ≠ x))
   clear hn hc
   generalize l.getD k 0 = y at *
   by_cases hy : y = x
   ·subst hy
    have HQ := Lib.hid (hid rfl)
    clear hid hgx
    go_wp2_with fail
    go_ret
    exact ⟨by rw [HQ.out]; rfl, rfl⟩
   ·have g1 : (x == y) = false := by simpa using (fun e => hy e.symm)
    have hg2 := Lib.hid (hgx.out hy)
    clear hid hgx hy
    go_wp2_with fail
    exact ⟨⟨k + 1, by go_num, by omega, hg2.out, by first | rfl | trivial⟩, by simp [intOf]; omega⟩
  ·obtain rfl : k = l.length := by omega
   have k1 : decide ((l.length : Int) < (l.length : Int)) = false := by simp
   have k2 : decide (l.length < l.length) = false := by simp
   have HQ := Lib.hid (idxI_no hn)
   clear hn hk hkl
   go_wp2_with fail
   go_ret
   exact ⟨by rw [HQ.out]; rfl, rfl⟩
def lnkP (h : Hd) (at_ : Int) : Bs × Int :=
 if fineH h = false then ([], 190) else if 0 < h.height ∧ at_ = h.height - 1 then (h.parent, 0)
 else if idxI (linksF h.height) at_ < 0 then ([], 5) else (h.skips.getD (idxI (linksF h.height) at_).toNat [], 0)
theorem link_any (h : Hd) (at_ : Int) (ka : Option Addr) (kc : Nat) (w : World) (hk : SS w (.slice ka h.skips.length kc) h.skips) :
  Calls Tryz.prog 51 #[.agg (hcs h (.slice ka h.skips.length kc)).toArray, .int .i64 at_] w fun e w' => e = .returned (.tuple #[.string ⟨List.toArray ((lnkP h at_).1)⟩, .int .i64 ((lnkP h at_).2)]) ∧ Below w.heap.size w w' := by
 have B0 : Blk (w.alloc (.cells (hcs h (.slice ka h.skips.length kc)).toArray 48)) w.heap.size (hcs h (.slice ka h.skips.length kc)).toArray := Blk.new _ _ _
 have hb0 : Below w.heap.size w (w.alloc (.cells (hcs h (.slice ka h.skips.length kc)).toArray 48)) := Below.allocS (Below.refl _ _) _
 have q1 := hd_check h.height h.epoch h.view h.last h.parent h.state h.receipts h.txs h.members h.next h.skips (.slice ka h.skips.length kc) _ (hk.keep hb0)
 have q2 := fun W => links_any h.height W
 rw [show fineH (⟨h.height, h.epoch, h.view, h.last, h.parent, h.state, h.receipts, h.txs, h.members, h.next, h.skips⟩ : Hd) = fineH h from rfl] at q1
 have r0 := B0.range
 cases hf : fineH h
 ·rw [hf] at q1
  have HR : Hid (lnkP h at_ = ([], 190)) := Lib.hid (by unfold lnkP; rw [hf]; rfl)
  clear hf q2 hk
  go_enter Tryz.func51, Tryz.ntmps51
  go_wp2_with (first | (refine wpList_rowR row_head rfl (.tmp 2) rfl rfl (vs := hcs h (.slice ka h.skips.length kc)) rfl r0 ?_) | fail)
  refine q1.mono ?_
  rintro e w1 ⟨rfl, hb⟩
  have g : (codeH false != 0) = true := by decide
  have hb1 := hb0.trans (hb.mono hb0.size)
  go_wp2_with fail
  all_goals (go_ret2; exact ⟨by rw [HR.out]; rfl, hb1⟩)
 rw [hf] at q1
 have hp := fine_parts hf
 have HSKL := Lib.hid hp.skl
 have hhn := hp.hn
 have HF := Lib.hid hf
 have HK := Lib.hid hk
 clear hf hk hp
 go_enter Tryz.func51, Tryz.ntmps51
 go_wp2_with (first | (refine wpList_rowR row_head rfl (.tmp 2) rfl rfl (vs := hcs h (.slice ka h.skips.length kc)) rfl r0 ?_) | fail)
 refine q1.mono ?_
 rintro e w1 ⟨rfl, hb⟩
 have g : (codeH true != 0) = false := by decide
 have hb1 := hb0.trans (hb.mono hb0.size)
 have B1 := B0.keep hb
 have c0 := B1.cell 0
 have c4 := B1.cell 4
 simp only [hcs, List.getElem?_toArray, List.getElem?_cons_zero, List.getElem?_cons_succ] at c0 c4
 have w1' : IntKind.i64.wrap (h.height - 1) = h.height - 1 := by rw [IntKind.wrap_i64]; omega
 clear q1 hb B0 r0
 have hne : ¬ (fineH h = false) := by rw [HF.out]; decide
 have HNE := Lib.hid hne
 clear hne
 by_cases hpar : 0 < h.height ∧ at_ = h.height - 1
 ·have HR : Hid (lnkP h at_ = (h.parent, 0)) := Lib.hid (by unfold lnkP; rw [if_neg HNE.out, if_pos hpar])
  obtain ⟨p1, p2⟩ := hpar
  have g1 : decide (h.height > 0) = true := by simpa using p1
  have g2 : (at_ == h.height - 1) = true := by simpa using p2
  clear p1 p2 q2 hhn
  go_wp2_with fail
  all_goals (go_ret2; exact ⟨by rw [HR.out]; rfl, hb1⟩)
 have HPAR := Lib.hid hpar
 have hidx := idxI_lt (linksF h.height) at_
 generalize hxi : idxI (linksF h.height) at_ = xi at *
 have HXI := Lib.hid hxi
 have hll := linksF_len h.height
 clear hxi
 by_cases hp0 : 0 < h.height
 ·have g1 : decide (h.height > 0) = true := by simpa using hp0
  have g2 : (at_ == h.height - 1) = false := by simpa using (fun e => hpar ⟨hp0, e⟩)
  clear hpar hp0
  go_upto_region 6 with fail
  go_wp2_with fail
  refine (q2 _).mono ?_
  rintro e w2 ⟨v, rfl, hz, hb2⟩
  have hb02 := hb1.trans (hb2.mono hb1.size)
  have B2 := B1.keep hb2
  have c10 := B2.cell 10
  simp only [hcs, List.getElem?_toArray, List.getElem?_cons_zero, List.getElem?_cons_succ] at c10
  have q3 := index_any w1.heap.size v (linksF h.height) at_ w2 hz (by omega)
  rw [HXI.out] at q3
  have HK2 := HK.out.keep hb02
  clear hz hb2 q2
  go_wp2_with fail
  refine q3.mono ?_
  rintro e w3 ⟨rfl, rfl⟩
  by_cases hx0 : xi < 0
  ·have HR : Hid (lnkP h at_ = ([], 5)) := Lib.hid (by unfold lnkP; rw [if_neg HNE.out, if_neg HPAR.out, HXI.out, if_pos hx0])
   have g3 : decide (xi < 0) = true := by simpa using hx0
   clear q3 hx0 hidx
   go_wp2_with fail
   all_goals (go_ret2; exact ⟨by rw [HR.out]; rfl, hb02⟩)
  ·have HR : Hid (lnkP h at_ = (h.skips.getD xi.toNat [], 0)) := Lib.hid (by unfold lnkP; rw [if_neg HNE.out, if_neg HPAR.out, HXI.out, if_neg hx0])
   have g3 : decide (xi < 0) = false := by simpa using hx0
   obtain ⟨n, rfl⟩ : ∃ n : Nat, xi = (n : Int) := ⟨xi.toNat, by omega⟩
   have hn : n < h.skips.length := by have := HSKL.out; omega
   have hn2 : (n : Int) < (h.skips.length : Int) := by omega
   obtain ⟨gk, ok, ek, hgk, ck⟩ := HK2.at' n hn
   subst ek
   rw [Int.toNat_natCast] at HR
   generalize h.skips.getD n [] = sx at *
   clear q3 hx0 hidx
   go_wp2_with fail
   all_goals (go_ret2; exact ⟨by rw [HR.out]; rfl, hb02⟩)
 ·have g1 : decide (h.height > 0) = false := by simpa using hp0
  clear hpar hp0
  go_upto_region 6 with fail
  go_wp2_with fail
  refine (q2 _).mono ?_
  rintro e w2 ⟨v, rfl, hz, hb2⟩
  have hb02 := hb1.trans (hb2.mono hb1.size)
  have B2 := B1.keep hb2
  have c10 := B2.cell 10
  simp only [hcs, List.getElem?_toArray, List.getElem?_cons_zero, List.getElem?_cons_succ] at c10
  have q3 := index_any w1.heap.size v (linksF h.height) at_ w2 hz (by omega)
  rw [HXI.out] at q3
  have HK2 := HK.out.keep hb02
  clear hz hb2 q2
  go_wp2_with fail
  refine q3.mono ?_
  rintro e w3 ⟨rfl, rfl⟩
  by_cases hx0 : xi < 0
  ·have HR : Hid (lnkP h at_ = ([], 5)) := Lib.hid (by unfold lnkP; rw [if_neg HNE.out, if_neg HPAR.out, HXI.out, if_pos hx0])
   have g3 : decide (xi < 0) = true := by simpa using hx0
   clear q3 hx0 hidx
   go_wp2_with fail
   all_goals (go_ret2; exact ⟨by rw [HR.out]; rfl, hb02⟩)
  ·have HR : Hid (lnkP h at_ = (h.skips.getD xi.toNat [], 0)) := Lib.hid (by unfold lnkP; rw [if_neg HNE.out, if_neg HPAR.out, HXI.out, if_neg hx0])
   have g3 : decide (xi < 0) = false := by simpa using hx0
   obtain ⟨n, rfl⟩ : ∃ n : Nat, xi = (n : Int) := ⟨xi.toNat, by omega⟩
   have hn : n < h.skips.length := by have := HSKL.out; omega
   have hn2 : (n : Int) < (h.skips.length : Int) := by omega
   obtain ⟨gk, ok, ek, hgk, ck⟩ := HK2.at' n hn
   subst ek
   rw [Int.toNat_natCast] at HR
   generalize h.skips.getD n [] = sx at *
   clear q3 hx0 hidx
   go_wp2_with fail
   all_goals (go_ret2; exact ⟨by rw [HR.out]; rfl, hb02⟩)
end Go.Proofs.YthkpmlfaddlieaaGreatDoor
