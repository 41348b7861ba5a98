/- WSplP, Same, SameH, SamE, AccU. -/
import Derived.Test.YthkpmlfaddlieaaGreatDoorMs26
set_option linter.unnecessarySimpa false
set_option linter.unusedSimpArgs false
set_option linter.unusedVariables false
set_option maxRecDepth 100000
set_option maxHeartbeats 32000000
namespace Go.Proofs.YthkpmlfaddlieaaGreatDoor
open Go.RowKit Pl
theorem sumOf_none : ∀ l : List (Bs × Int), sumOf [] l = 0
 | [] => rfl
 | x :: r => by simp [sumOf, sumOf_none r]
theorem mostM_nonneg (l : List (Bs × Int)) : 0 ≤ mostM l := by
 have h := totM_bound l
 unfold mostM
 split
 ·omega
 ·exact Int.tdiv_nonneg (by omega) (by decide)
theorem acc_fine {T : Hd} {S : List (Bs × Int)} {ht : Int} {h : Hd} {nx : List (Bs × Int)} {d : Bs} {ns : List Bs} {L : List Sg} (hc : accC T S ht h nx d ns L = 0) :
  fineT ⟨T, S, 0⟩ = true ∧ fineH h = true ∧ h.members = T.next ∧ d = dgH h ∧ goodC 6 S d ns L = 0 ∧ 0 < h.height := by
 unfold accC at hc
 split at hc
 ·exact absurd hc (by decide)
 ·rename_i h1
  split at hc
  ·exact absurd hc (by decide)
  ·rename_i htl
   simp only [Bool.not_eq_false] at htl h1
   unfold tlP caP at htl
   simp only [Bool.and_eq_true] at htl
   split at hc
   ·rename_i h2; exact absurd hc h2
   ·rename_i h2
    split at hc
    ·exact absurd hc (by decide)
    ·split at hc
     ·exact absurd hc (by decide)
     ·split at hc
      ·exact absurd hc (by decide)
      ·rename_i h5
       simp only [Classical.not_not] at h2 h5
       unfold plP at h2
       split at h2
       ·exact absurd h2 (by decide)
       ·rename_i h6
        split at h2
        ·rename_i h7
         have hT : fineH T = true := by
          unfold fineT at h1
          simp only [Bool.and_eq_true] at h1
          exact h1.1.1.1
         have := (fine_parts hT).hn.1
         exact ⟨h1, htl.1.2.2.2, h7.2, h5, hc, by omega⟩
        ·exact absurd h2 (by decide)
theorem split_law {T : Hd} {S : List (Bs × Int)} {hta htb : Int} {hA hB : Hd} {nxa nxb : List (Bs × Int)} {da db : Bs} {nsa nsb : List Bs} {L : List Sg}
  (hca : accC T S hta hA nxa da nsa L = 0) (hcb : accC T S htb hB nxb db nsb L = 0) (hh : hA.height = hB.height) (hd : dgH hA ≠ dgH hB) :
  codeW S hA hB da nsa db nsb L = 0 ∧ 0 < (bothP nsa nsb).length := by
 obtain ⟨f1, a1, a2, a3, a4, _⟩ := acc_fine hca
 obtain ⟨_, b1, b2, b3, b4, _⟩ := acc_fine hcb
 unfold fineT at f1
 simp only [Bool.and_eq_true, decide_eq_true_eq] at f1
 obtain ⟨⟨_, f2⟩, f3⟩ := f1
 refine ⟨?_, ?_⟩
 ·unfold codeW
  rw [if_neg (by rw [f2]; decide), if_neg (by rw [a1, b1]; decide), if_neg (fun h => h ⟨hh, hd, by rw [a2]; exact f3.symm, by rw [b2]; exact f3.symm⟩), if_neg (by rw [← a3, ← b3]; simp), if_neg (by rw [a4]; simp)]
  exact b4
 ·obtain ⟨_, t2, _⟩ := two_good a4 b4 (bothP_is nsa nsb)
  apply Nat.pos_of_ne_zero
  intro h0
  rw [List.length_eq_zero_iff.1 h0] at t2
  have h1 := of_bound [] f2
  have h2 : ofM S [] = 0 := by unfold ofM; rw [f2, if_pos rfl]; exact sumOf_none S
  have h3 : 0 ≤ mostM S := mostM_nonneg S
  omega
end Go.Proofs.YthkpmlfaddlieaaGreatDoor
namespace Go.Proofs.YthkpmlfaddlieaaGreatDoor
open Go.RowKit Pl
theorem member_fields : ((Tryz.prog).fieldsOf 77).toList.map (fun f => (f.type, f.offset, f.name == "_")) = [(9, 0, false), (3, 1, false)] := by kernel_rfl
@[go_sem high] theorem eq_member (n : Bs) (k : Int) (n2 : Bs) (k2 : Int) (d : Nat) (w : World) :
  (Op.equalIn (d + 2) 77 (.agg #[.string ⟨n.toArray⟩, .int .i64 k]) (.agg #[.string ⟨n2.toArray⟩, .int .i64 k2])).run Tryz.prog w = .ok (decide (n = n2) && decide (k = k2)) w := by
 rw [run_equalIn_struct w (d + 1) 77 _ _ (by kernel_rfl) (by kernel_rfl)]
 have hf := member_fields
 generalize ((Tryz.prog).fieldsOf 77).toList = l at *
 rcases l with _ | ⟨f0, _ | ⟨f1, _ | ⟨f2, l⟩⟩⟩ <;> simp at hf
 obtain ⟨⟨a1, a2, a3⟩, ⟨b1, b2, b3⟩⟩ := hf
 have q0 : ∀ (n : Bs) (k : Int), (part 9 #[.string ⟨n.toArray⟩, .int .i64 k] 0).run Tryz.prog w = .ok (.string ⟨n.toArray⟩) w := fun n k => run_part_plain w (by simp [Program.plainKey, Tryz.underlying9]) rfl
 have q1 : ∀ (n : Bs) (k : Int), (part 3 #[.string ⟨n.toArray⟩, .int .i64 k] 1).run Tryz.prog w = .ok (.int .i64 k) w := fun n k => run_part_plain w (by simp [Program.plainKey, Tryz.underlying3]) rfl
 have e0 := run_equalIn_string (P := Tryz.prog) w d 9 ⟨n.toArray⟩ ⟨n2.toArray⟩ Tryz.underlying9
 have e1 := run_equalIn_int (P := Tryz.prog) w d 3 .i64 .i64 k k2 Tryz.underlying3
 rw [← beq_toListBytes, str_beq] at e0
 simp only [Op.eqFields, a1, a2, b1, b2, a3, b3, ne_eq, not_false_eq_true, if_true, Sem.run_bind, q0, q1, e0, e1, Result.andThen_ok]
 by_cases h0 : n = n2
 ·subst h0
  by_cases h1 : k = k2
  ·subst h1; simp [Sem.run_bind, Sem.run_ite, q0, q1, e0, e1]
  ·simp [Sem.run_bind, Sem.run_ite, q0, q1, e0, e1, h1]
 ·simp [Sem.run_bind, Sem.run_ite, q0, q1, e0, e1, h0]
theorem MS.drewN {w : World} {v : Value} {l : List (Bs × Int)} (h : MS w v l) (n : Nat) : MS (w.drewN n) v l := h.keep (below_drewN (Below.refl _ _) n)
theorem samemembers_any (u v : Value) (l m : List (Bs × Int)) (w : World) (hu : MS w u l) (hv : MS w v m) :
  Calls Tryz.prog 55 #[u, v] w fun e w' => e = .returned (.bool (decide (l = m))) ∧ ∃ n, w' = w.drewN n := by
 obtain ⟨a, c, rfl⟩ := hu.form
 obtain ⟨b, d, rfl⟩ := hv.form
 have hls := hu.small
 generalize hr : decide (l = m) = r
 have HR := Lib.hid hr
 clear hr
 by_cases hl : l.length = m.length
 ·have hl1 : ((l.length : Int) == (m.length : Int)) = true := by simp; omega
  have HL := Lib.hid hl
  clear hl
  go_enter Tryz.func55, Tryz.ntmps55
  go_wp2_with fail
  go_loopw [5, 6] (fun s5 s6 wr => ∃ (i : Nat) (q : Bool), i ≤ l.length ∧ s6 = .int .i64 i ∧ s5 = .bool q ∧ Hid ((q = true → l.take i = m.take i) ∧ (q = false → l ≠ m)) ∧ ∃ n, wr = w.drewN n) (fun _ s6 _ => l.length - (intOf s6).toNat)
  case atStart => exact ⟨0, true, by omega, rfl, rfl, Lib.hid ⟨fun _ => rfl, fun h => by cases h⟩, 0, rfl⟩
  case round =>
   obtain ⟨i, q, hi, rfl, rfl, HQ, nq, rfl⟩ := hrel
   cases q
   ·have HZ : Hid (r = false) := Lib.hid (by rw [← HR.out]; simp [HQ.out.2 rfl])
    clear HQ
    go_wp2_with fail
    go_ret
    exact ⟨by rw [HZ.out]; rfl, nq, rfl⟩
   ·by_cases hlt : i < l.length
    ·have hlt' : (i : Int) < (l.length : Int) := by omega
     have hlm : i < m.length := by rw [← HL.out]; exact hlt
     have hlm' : (i : Int) < (m.length : Int) := by omega
     obtain ⟨g, off, rfl, _, c1, c1'⟩ := hu.at i hlt
     obtain ⟨g2, off2, rfl, _, c2, c2'⟩ := hv.at i hlm
     have HS : Hid (l.take (i + 1) = m.take (i + 1) ↔ l.getD i ([], 0) = m.getD i ([], 0)) := Lib.hid (by
      rw [List.take_succ_eq_append_getElem hlt, List.take_succ_eq_append_getElem hlm, HQ.out.1 rfl, List.append_cancel_left_eq]
      simp [List.getD, List.getElem?_eq_getElem hlt, List.getElem?_eq_getElem hlm])
     have HD : Hid (l.getD i ([], 0) ≠ m.getD i ([], 0) → l ≠ m) := Lib.hid (fun h e => h (by rw [e]))
     generalize l.getD i ([], 0) = x at *
     generalize m.getD i ([], 0) = y at *
     obtain ⟨n1, p1⟩ := x
     obtain ⟨n2, p2⟩ := y
     simp only at c1 c1' c2 c2'
     have HU := Lib.hid hu
     have HV := Lib.hid hv
     clear hu hv
     go_wp2_with fail
     go_quiet (fail)
     go_wp2_with fail
     exact ⟨⟨i + 1, decide (n1 = n2) && decide (p1 = p2), by omega, by go_num, rfl, Lib.hid ⟨fun h => HS.out.2 (by simpa using h), fun h => HD.out (by simpa using h)⟩, _, rfl⟩, by simp [intOf]; omega⟩
    ·have hie : i = l.length := by omega
     have hd : decide ((i : Int) < (l.length : Int)) = false := by simp; omega
     have HZ : Hid (r = true) := Lib.hid (by
      rw [← HR.out]
      have h := HQ.out.1 rfl
      rw [hie, List.take_length, HL.out, List.take_length] at h
      simp [h])
     clear HQ
     go_wp2_with fail
     go_ret
     exact ⟨by rw [HZ.out]; rfl, nq, rfl⟩
 ·have hl1 : ((l.length : Int) == (m.length : Int)) = false := by rw [beq_eq_false_iff_ne]; omega
  have HZ : Hid (r = false) := Lib.hid (by rw [← HR.out]; simp; intro e; exact hl (by rw [e]))
  clear hl
  go_enter Tryz.func55, Tryz.ntmps55
  go_wp2_with fail
  go_loopw [5, 6] (fun s5 s6 wr => s5 = .bool false ∧ s6 = .int .i64 0 ∧ wr = w) (fun _ s6 _ => 0)
  case atStart => exact ⟨rfl, rfl, rfl⟩
  case round =>
   obtain ⟨rfl, rfl, rfl⟩ := hrel
   go_wp2_with fail
   go_ret
   exact ⟨by rw [HZ.out]; rfl, 0, rfl⟩
end Go.Proofs.YthkpmlfaddlieaaGreatDoor
namespace Go.Proofs.YthkpmlfaddlieaaGreatDoor
open Go.RowKit Go.Shelf Pl
namespace Pl
def sameHd (a b : Hd) : Bool := decide (a.height = b.height) && decide (a.epoch = b.epoch) && decide (a.view = b.view) && decide (a.last = b.last) && decide (a.parent = b.parent) && decide (a.state = b.state) && decide (a.receipts = b.receipts) && decide (a.txs = b.txs) && decide (a.members = b.members) && decide (a.next = b.next) && sameL a.skips b.skips
end Pl
theorem samehead_any (x1 x2 x3 : Int) (xb : Bool) (xp xs xr xt xm xn : Bs) (X : List Bs) (y1 y2 y3 : Int) (yb : Bool) (yp ys yr yt ym yn : Bs) (Y : List Bs) (u v : Value) (w : World) (hu : SS w u X) (hv : SS w v Y) :
  Calls Tryz.prog 22 #[.agg #[.int .i64 x1, .int .i64 x2, .int .i64 x3, .bool xb, .string ⟨xp.toArray⟩, .string ⟨xs.toArray⟩, .string ⟨xr.toArray⟩, .string ⟨xt.toArray⟩, .string ⟨xm.toArray⟩, .string ⟨xn.toArray⟩, u], .agg #[.int .i64 y1, .int .i64 y2, .int .i64 y3, .bool yb, .string ⟨yp.toArray⟩, .string ⟨ys.toArray⟩, .string ⟨yr.toArray⟩, .string ⟨yt.toArray⟩, .string ⟨ym.toArray⟩, .string ⟨yn.toArray⟩, v]] w fun e w' => e = .returned (.bool (sameHd ⟨x1, x2, x3, xb, xp, xs, xr, xt, xm, xn, X⟩ ⟨y1, y2, y3, yb, yp, ys, yr, yt, ym, yn, Y⟩)) ∧ Below w.heap.size w w' := by
 have B0 : Blk (w.alloc (.cells #[.int .i64 x1, .int .i64 x2, .int .i64 x3, .bool xb, .string ⟨xp.toArray⟩, .string ⟨xs.toArray⟩, .string ⟨xr.toArray⟩, .string ⟨xt.toArray⟩, .string ⟨xm.toArray⟩, .string ⟨xn.toArray⟩, u] 48)) w.heap.size #[.int .i64 x1, .int .i64 x2, .int .i64 x3, .bool xb, .string ⟨xp.toArray⟩, .string ⟨xs.toArray⟩, .string ⟨xr.toArray⟩, .string ⟨xt.toArray⟩, .string ⟨xm.toArray⟩, .string ⟨xn.toArray⟩, u] := Blk.new _ _ _
 have hb0 : Below w.heap.size w (w.alloc (.cells #[.int .i64 x1, .int .i64 x2, .int .i64 x3, .bool xb, .string ⟨xp.toArray⟩, .string ⟨xs.toArray⟩, .string ⟨xr.toArray⟩, .string ⟨xt.toArray⟩, .string ⟨xm.toArray⟩, .string ⟨xn.toArray⟩, u] 48)) := Below.allocS (Below.refl _ _) _
 have B1 := B0.alloc (.cells #[.int .i64 y1, .int .i64 y2, .int .i64 y3, .bool yb, .string ⟨yp.toArray⟩, .string ⟨ys.toArray⟩, .string ⟨yr.toArray⟩, .string ⟨yt.toArray⟩, .string ⟨ym.toArray⟩, .string ⟨yn.toArray⟩, v] 48)
 have hb1 := Below.allocS hb0 (.cells #[.int .i64 y1, .int .i64 y2, .int .i64 y3, .bool yb, .string ⟨yp.toArray⟩, .string ⟨ys.toArray⟩, .string ⟨yr.toArray⟩, .string ⟨yt.toArray⟩, .string ⟨ym.toArray⟩, .string ⟨yn.toArray⟩, v] 48)
 have C1 : Blk ((w.alloc (.cells #[.int .i64 x1, .int .i64 x2, .int .i64 x3, .bool xb, .string ⟨xp.toArray⟩, .string ⟨xs.toArray⟩, .string ⟨xr.toArray⟩, .string ⟨xt.toArray⟩, .string ⟨xm.toArray⟩, .string ⟨xn.toArray⟩, u] 48)).alloc (.cells #[.int .i64 y1, .int .i64 y2, .int .i64 y3, .bool yb, .string ⟨yp.toArray⟩, .string ⟨ys.toArray⟩, .string ⟨yr.toArray⟩, .string ⟨yt.toArray⟩, .string ⟨ym.toArray⟩, .string ⟨yn.toArray⟩, v] 48)) (w.heap.size + 1) #[.int .i64 y1, .int .i64 y2, .int .i64 y3, .bool yb, .string ⟨yp.toArray⟩, .string ⟨ys.toArray⟩, .string ⟨yr.toArray⟩, .string ⟨yt.toArray⟩, .string ⟨ym.toArray⟩, .string ⟨yn.toArray⟩, v] := Blk.new' (by simp)
 have q := fun W (hb : Below w.heap.size w W) => sametexts_any u v X Y W (hu.keep hb) (hv.keep hb)
 generalize hr : sameHd ⟨x1, x2, x3, xb, xp, xs, xr, xt, xm, xn, X⟩ ⟨y1, y2, y3, yb, yp, ys, yr, yt, ym, yn, Y⟩ = r
 have HR := Lib.hid hr
 clear hr
 by_cases e1 : x1 = y1
 case neg =>
  have HZ : Hid (r = false) := Lib.hid (by rw [← HR.out]; simp [sameHd, e1])
  clear HR q
  have e2 : (x1 == y1) = false := by simpa using e1
  have e3 : (x1 != y1) = true := by simpa using e1
  have e4 : decide (x1 = y1) = false := by simpa using e1
  have e5 : (!decide (x1 = y1)) = true := by simpa using e1
  obtain ⟨b1, b2, b3⟩ := id B1
  obtain ⟨c1, c2, c3⟩ := id C1
  clear e1 B1 C1
  go_enter Tryz.func22, Tryz.ntmps22
  go_wp2_with fail
  go_ret
  exact ⟨by rw [HZ.out]; rfl, hb1⟩
 subst e1
 by_cases e2 : x2 = y2
 case neg =>
  have HZ : Hid (r = false) := Lib.hid (by rw [← HR.out]; simp [sameHd, e2])
  clear HR q
  have e2 : (x2 == y2) = false := by simpa using e2
  have e3 : (x2 != y2) = true := by simpa using e2
  have e4 : decide (x2 = y2) = false := by simpa using e2
  have e5 : (!decide (x2 = y2)) = true := by simpa using e2
  obtain ⟨b1, b2, b3⟩ := id B1
  obtain ⟨c1, c2, c3⟩ := id C1
  clear e2 B1 C1
  go_enter Tryz.func22, Tryz.ntmps22
  go_wp2_with fail
  go_ret
  exact ⟨by rw [HZ.out]; rfl, hb1⟩
 subst e2
 by_cases e3 : x3 = y3
 case neg =>
  have HZ : Hid (r = false) := Lib.hid (by rw [← HR.out]; simp [sameHd, e3])
  clear HR q
  have e2 : (x3 == y3) = false := by simpa using e3
  have e3 : (x3 != y3) = true := by simpa using e3
  have e4 : decide (x3 = y3) = false := by simpa using e3
  have e5 : (!decide (x3 = y3)) = true := by simpa using e3
  obtain ⟨b1, b2, b3⟩ := id B1
  obtain ⟨c1, c2, c3⟩ := id C1
  clear e3 B1 C1
  go_enter Tryz.func22, Tryz.ntmps22
  go_wp2_with fail
  go_ret
  exact ⟨by rw [HZ.out]; rfl, hb1⟩
 subst e3
 by_cases eb : xb = yb
 case neg =>
  have HZ : Hid (r = false) := Lib.hid (by rw [← HR.out]; simp [sameHd, eb])
  clear HR q
  have e2 : (xb == yb) = false := by simpa using eb
  have e3 : (xb != yb) = true := by simpa using eb
  have e4 : decide (xb = yb) = false := by simpa using eb
  have e5 : (!decide (xb = yb)) = true := by simpa using eb
  obtain ⟨b1, b2, b3⟩ := id B1
  obtain ⟨c1, c2, c3⟩ := id C1
  clear eb B1 C1
  go_enter Tryz.func22, Tryz.ntmps22
  go_wp2_with fail
  go_ret
  exact ⟨by rw [HZ.out]; rfl, hb1⟩
 subst eb
 by_cases ep : xp = yp
 case neg =>
  have HZ : Hid (r = false) := Lib.hid (by rw [← HR.out]; simp [sameHd, ep])
  clear HR q
  have e2 : (xp == yp) = false := by simpa using ep
  have e3 : (xp != yp) = true := by simpa using ep
  have e4 : decide (xp = yp) = false := by simpa using ep
  have e5 : (!decide (xp = yp)) = true := by simpa using ep
  obtain ⟨b1, b2, b3⟩ := id B1
  obtain ⟨c1, c2, c3⟩ := id C1
  clear ep B1 C1
  go_enter Tryz.func22, Tryz.ntmps22
  go_wp2_with fail
  go_ret
  exact ⟨by rw [HZ.out]; rfl, hb1⟩
 subst ep
 by_cases es : xs = ys
 case neg =>
  have HZ : Hid (r = false) := Lib.hid (by rw [← HR.out]; simp [sameHd, es])
  clear HR q
  have e2 : (xs == ys) = false := by simpa using es
  have e3 : (xs != ys) = true := by simpa using es
  have e4 : decide (xs = ys) = false := by simpa using es
  have e5 : (!decide (xs = ys)) = true := by simpa using es
  obtain ⟨b1, b2, b3⟩ := id B1
  obtain ⟨c1, c2, c3⟩ := id C1
  clear es B1 C1
  go_enter Tryz.func22, Tryz.ntmps22
  go_wp2_with fail
  go_ret
  exact ⟨by rw [HZ.out]; rfl, hb1⟩
 subst es
 by_cases er : xr = yr
 case neg =>
  have HZ : Hid (r = false) := Lib.hid (by rw [← HR.out]; simp [sameHd, er])
  clear HR q
  have e2 : (xr == yr) = false := by simpa using er
  have e3 : (xr != yr) = true := by simpa using er
  have e4 : decide (xr = yr) = false := by simpa using er
  have e5 : (!decide (xr = yr)) = true := by simpa using er
  obtain ⟨b1, b2, b3⟩ := id B1
  obtain ⟨c1, c2, c3⟩ := id C1
  clear er B1 C1
  go_enter Tryz.func22, Tryz.ntmps22
  go_wp2_with fail
  go_ret
  exact ⟨by rw [HZ.out]; rfl, hb1⟩
 subst er
 by_cases et : xt = yt
 case neg =>
  have HZ : Hid (r = false) := Lib.hid (by rw [← HR.out]; simp [sameHd, et])
  clear HR q
  have e2 : (xt == yt) = false := by simpa using et
  have e3 : (xt != yt) = true := by simpa using et
  have e4 : decide (xt = yt) = false := by simpa using et
  have e5 : (!decide (xt = yt)) = true := by simpa using et
  obtain ⟨b1, b2, b3⟩ := id B1
  obtain ⟨c1, c2, c3⟩ := id C1
  clear et B1 C1
  go_enter Tryz.func22, Tryz.ntmps22
  go_wp2_with fail
  go_ret
  exact ⟨by rw [HZ.out]; rfl, hb1⟩
 subst et
 by_cases em : xm = ym
 case neg =>
  have HZ : Hid (r = false) := Lib.hid (by rw [← HR.out]; simp [sameHd, em])
  clear HR q
  have e2 : (xm == ym) = false := by simpa using em
  have e3 : (xm != ym) = true := by simpa using em
  have e4 : decide (xm = ym) = false := by simpa using em
  have e5 : (!decide (xm = ym)) = true := by simpa using em
  obtain ⟨b1, b2, b3⟩ := id B1
  obtain ⟨c1, c2, c3⟩ := id C1
  clear em B1 C1
  go_enter Tryz.func22, Tryz.ntmps22
  go_wp2_with fail
  go_ret
  exact ⟨by rw [HZ.out]; rfl, hb1⟩
 subst em
 by_cases en : xn = yn
 case neg =>
  have HZ : Hid (r = false) := Lib.hid (by rw [← HR.out]; simp [sameHd, en])
  clear HR q
  have e2 : (xn == yn) = false := by simpa using en
  have e3 : (xn != yn) = true := by simpa using en
  have e4 : decide (xn = yn) = false := by simpa using en
  have e5 : (!decide (xn = yn)) = true := by simpa using en
  obtain ⟨b1, b2, b3⟩ := id B1
  obtain ⟨c1, c2, c3⟩ := id C1
  clear en B1 C1
  go_enter Tryz.func22, Tryz.ntmps22
  go_wp2_with fail
  go_ret
  exact ⟨by rw [HZ.out]; rfl, hb1⟩
 subst en
 have HZ : Hid (r = sameL X Y) := Lib.hid (by rw [← HR.out]; simp [sameHd])
 clear HR
 obtain ⟨b1, b2, b3⟩ := id B1
 obtain ⟨c1, c2, c3⟩ := id C1
 go_enter Tryz.func22, Tryz.ntmps22
 go_wp2_with fail
 refine (q _ hb1).mono ?_
 rintro e w' ⟨rfl, k, rfl⟩
 go_wp2_with fail
 go_ret
 exact ⟨by rw [HZ.out]; rfl, below_drewN hb1 _⟩
end Go.Proofs.YthkpmlfaddlieaaGreatDoor
namespace Go.Proofs.YthkpmlfaddlieaaGreatDoor
open Go.RowKit Go.Shelf Pl
def evZ : List Value := evcs (.slice none 0 0) hdZ (.slice none 0 0) hdZ (.slice none 0 0) [] (.slice none 0 0) [] (.slice none 0 0)
theorem evZ_cells {w : World} {b : Nat} (B : Blk w b evZ.toArray) : w.cell? ⟨b, 0, none⟩ = some (.slice none 0 0) ∧ w.rangeAt b 1 (hcs hdZ (.slice none 0 0)) ∧ w.rangeAt b 12 (hcs hdZ (.slice none 0 0)) ∧ w.rangeAt b 23 [.string ⟨List.toArray []⟩, .slice none 0 0] ∧ w.rangeAt b 25 [.string ⟨List.toArray []⟩, .slice none 0 0] :=
 ⟨B.cell 0, (ev_sub B).1, (ev_sub B).2.1, (ev_sub B).2.2.1, (ev_sub B).2.2.2⟩
theorem same_zero (w : World) : Calls Tryz.prog 23 #[.agg evZ.toArray, .agg evZ.toArray] w fun e w' => e = .returned (.bool true) ∧ Below w.heap.size w w' := by
 have hb0 : Below w.heap.size w ((w.alloc (.cells evZ.toArray 54)).alloc (.cells evZ.toArray 54)) := Below.allocS (Below.allocS (Below.refl _ _) _) _
 have B2 : Blk ((w.alloc (.cells evZ.toArray 54)).alloc (.cells evZ.toArray 54)) w.heap.size evZ.toArray := (Blk.new _ _ _).alloc _
 have B3 : Blk ((w.alloc (.cells evZ.toArray 54)).alloc (.cells evZ.toArray 54)) (w.heap.size + 1) evZ.toArray := Blk.new' (by simp)
 have q1 := fun W => samemembers_any (.slice none 0 0) (.slice none 0 0) [] [] W ⟨none, 0, rfl, Nat.le_refl _, by unfold maxLen; omega, fun h => absurd rfl h⟩ ⟨none, 0, rfl, Nat.le_refl _, by unfold maxLen; omega, fun h => absurd rfl h⟩
 have q2 := fun W => samehead_any 0 0 0 false [] [] [] [] [] [] [] 0 0 0 false [] [] [] [] [] [] [] (.slice none 0 0) (.slice none 0 0) W (SS.nil W) (SS.nil W)
 have q3 := fun W => samecert_any (.agg #[.string ⟨List.toArray []⟩, .slice none 0 0]) (.agg #[.string ⟨List.toArray []⟩, .slice none 0 0]) [] [] [] [] W ⟨_, rfl, SS.nil W⟩ ⟨_, rfl, SS.nil W⟩
 rw [show decide (([] : List (Bs × Int)) = []) = true from by decide] at q1
 rw [show sameHd ⟨0, 0, 0, false, [], [], [], [], [], [], []⟩ ⟨0, 0, 0, false, [], [], [], [], [], [], []⟩ = true from by decide] at q2
 rw [show ((([] : Bs) == []) && sameL [] []) = true from by decide] at q3
 obtain ⟨a0, a1, a12, a23, a25⟩ := evZ_cells B2
 obtain ⟨b0, b1, b12, b23, b25⟩ := evZ_cells B3
 have HZ : ∃ z, z = hcs hdZ (.slice none 0 0) := ⟨_, rfl⟩
 go_enter Tryz.func23, Tryz.ntmps23
 go_wp2_with fail
 refine (q1 _).mono ?_
 rintro e w1 ⟨rfl, n, rfl⟩
 have hb1 := below_drewN hb0 n
 obtain ⟨a0, a1, a12, a23, a25⟩ := evZ_cells (B2.drewN n)
 obtain ⟨b0, b1, b12, b23, b25⟩ := evZ_cells (B3.drewN n)
 have B2 := B2.drewN n
 have B3 := B3.drewN n
 go_wp2_with (first | (refine wpList_rowRG row_head (by rfl) (.tmp 11) rfl rfl (vs := hcs hdZ (.slice none 0 0)) rfl a1 ?_) | (refine wpList_rowRG row_head (by rfl) (.tmp 13) rfl rfl (vs := hcs hdZ (.slice none 0 0)) rfl b1 ?_) | fail)
 refine (q2 _).mono ?_
 rintro e w2 ⟨rfl, hb⟩
 have hb2 := hb1.trans (hb.mono hb1.size)
 have B2 := B2.keep hb
 have B3 := B3.keep hb
 obtain ⟨a0, a1, a12, a23, a25⟩ := evZ_cells B2
 obtain ⟨b0, b1, b12, b23, b25⟩ := evZ_cells B3
 go_wp2_with (first | (refine wpList_rowRG row_head (by rfl) (.tmp 18) rfl rfl (vs := hcs hdZ (.slice none 0 0)) rfl a12 ?_) | (refine wpList_rowRG row_head (by rfl) (.tmp 20) rfl rfl (vs := hcs hdZ (.slice none 0 0)) rfl b12 ?_) | fail)
 refine (q2 _).mono ?_
 rintro e w3 ⟨rfl, hb⟩
 have hb3 := hb2.trans (hb.mono hb2.size)
 have B2 := B2.keep hb
 have B3 := B3.keep hb
 obtain ⟨a0, a1, a12, a23, a25⟩ := evZ_cells B2
 obtain ⟨b0, b1, b12, b23, b25⟩ := evZ_cells B3
 go_wp2_with (first | (refine wpList_rowRG row_cert (by rfl) (.tmp 25) rfl rfl (vs := [.string ⟨List.toArray []⟩, .slice none 0 0]) rfl a23 ?_) | (refine wpList_rowRG row_cert (by rfl) (.tmp 27) rfl rfl (vs := [.string ⟨List.toArray []⟩, .slice none 0 0]) rfl b23 ?_) | fail)
 refine (q3 _).mono ?_
 rintro e w4 ⟨rfl, hb⟩
 have hb4 := hb3.trans (hb.mono hb3.size)
 have B2 := B2.keep hb
 have B3 := B3.keep hb
 obtain ⟨a0, a1, a12, a23, a25⟩ := evZ_cells B2
 obtain ⟨b0, b1, b12, b23, b25⟩ := evZ_cells B3
 go_wp2_with (first | (refine wpList_rowRG row_cert (by rfl) (.tmp 32) rfl rfl (vs := [.string ⟨List.toArray []⟩, .slice none 0 0]) rfl a25 ?_) | (refine wpList_rowRG row_cert (by rfl) (.tmp 34) rfl rfl (vs := [.string ⟨List.toArray []⟩, .slice none 0 0]) rfl b25 ?_) | fail)
 refine (q3 _).mono ?_
 rintro e w5 ⟨rfl, hb⟩
 have hb5 := hb4.trans (hb.mono hb4.size)
 go_wp2_with fail
 go_ret
 exact ⟨rfl, hb5⟩
end Go.Proofs.YthkpmlfaddlieaaGreatDoor
namespace Go.Proofs.YthkpmlfaddlieaaGreatDoor
open Go.RowKit Go.Shelf Pl
def pickH (c : Int) (h : Hd) : Hd := if c = 0 then h else hdZ
theorem acc_uni (T : Hd) (S : List (Bs × Int)) (tk tm : Value) (ht : Int) (h : Hd) (hk0 : Value) (nx : List (Bs × Int)) (d : Bs) (ns : List Bs) (hv nv sg : Value) (base p : Nat) (L : List Sg) (w : World)
  (hTK : SS w tk T.skips) (hTM : MS w tm S) (hR : AnsR w h hk0 nx ns hv nv sg) (hnx : nx.length ≤ 1000000) (hTb : Tab w base p L) (hKT : KT w) :
  Calls Tryz.prog 19 #[.agg (trv T tk tm 0).toArray, .agg (acs ht hv nv d sg).toArray, .int .i64 0, .pointer (some ⟨p, 0, none⟩)] w fun e w' => ∃ a1 c1 m1 n1 k1,
   e = .returned (.tuple #[.agg (trv (pickH (accC T S ht h nx d ns L) h) (.slice a1 (pickH (accC T S ht h nx d ns L) h).skips.length c1) (.slice m1 n1 k1) 0).toArray, .int .i64 (accC T S ht h nx d ns L)]) ∧ SS w' (.slice a1 (pickH (accC T S ht h nx d ns L) h).skips.length c1) (pickH (accC T S ht h nx d ns L) h).skips ∧ Below w.heap.size w w' := by
 refine (acc_any T S tk tm ht h hk0 nx d ns hv nv sg base p L w hTK hTM hR hnx hTb hKT).mono ?_
 rintro e w' ⟨hb, h1, h2⟩
 generalize accC T S ht h nx d ns L = c at *
 by_cases hc : c = 0
 ·subst hc
  obtain ⟨sk, ms, rfl, hs, hm⟩ := h2 rfl
  obtain ⟨a1, c1, rfl⟩ := hs.form
  obtain ⟨a2, c2, rfl⟩ := hm.form
  exact ⟨a1, c1, a2, nx.length, c2, rfl, hs.ss, hb⟩
 ·have e0 : pickH c h = hdZ := if_neg hc
  rw [h1 hc, e0]
  exact ⟨none, 0, none, 0, 0, rfl, SS.nil _, hb⟩
structure CmpU (w' : World) (S : List (Bs × Int)) (hA hB : Hd) (dA dB : Bs) (nA nB : List Bs) (c : Int) (u : Hd) (n1 : Nat) (ev : List Value) : Prop where
 len : ev.length = 27
 one : ∀ x ∈ ev, x.oneCell' = true
 zero : c = 0 → u = hA ∧ ev = evZ
 bad : c ≠ 0 → u = hdZ ∧ n1 = 0
 non : c ≠ 0 → c ≠ 370 → ev = evZ
 spl : c = 370 → ∃ ms a1 c1 a2 c2 a3 c3 a4 c4, ev = evcs ms hA (.slice a1 hA.skips.length c1) hB (.slice a2 hB.skips.length c2) dA (.slice a3 nA.length c3) dB (.slice a4 nB.length c4) ∧
  MS w' ms S ∧ SS w' (.slice a1 hA.skips.length c1) hA.skips ∧ SS w' (.slice a2 hB.skips.length c2) hB.skips ∧ SS w' (.slice a3 nA.length c3) nA ∧ SS w' (.slice a4 nB.length c4) nB
theorem cmp_uni {W w' : World} {S : List (Bs × Int)} {hA hB : Hd} {dA dB : Bs} {nA nB : List Bs} {c : Int} {e : Ending} (h : CmpO W S hA hB dA dB nA nB c e w') :
  ∃ u a1 c1 m1 n1 k1 ev, e = .returned (.tuple #[.agg (trv u (.slice a1 u.skips.length c1) (.slice m1 n1 k1) 0).toArray, .agg (ev.toArray), .int .i64 c]) ∧ SS w' (.slice a1 u.skips.length c1) u.skips ∧ CmpU w' S hA hB dA dB nA nB c u n1 ev ∧ Below W.heap.size W w' := by
 obtain ⟨hb, h1, h2, h3⟩ := h
 by_cases c0 : c = 0
 ·subst c0
  obtain ⟨a1, c1, m1, n1, k1, rfl, hs⟩ := h1 rfl
  exact ⟨hA, a1, c1, m1, n1, k1, evZ, rfl, hs, ⟨rfl, ev_one0, fun _ => ⟨rfl, rfl⟩, fun h => absurd rfl h, fun h => absurd rfl h, fun h => absurd h (by decide)⟩, hb⟩
 ·by_cases c3 : c = 370
  ·subst c3
   obtain ⟨ms, a1, c1, a2, c2, a3, c3, a4, c4, rfl, hm, s1, s2, s3, s4⟩ := h2 rfl
   obtain ⟨ma, mc, rfl⟩ := hm.form
   exact ⟨hdZ, none, 0, none, 0, 0, _, rfl, SS.nil _, ⟨rfl, by simp [evcs, hcs, Value.oneCell'], fun h => absurd h (by decide), fun _ => ⟨rfl, rfl⟩, fun _ h => absurd rfl h, fun _ => ⟨_, a1, c1, a2, c2, a3, c3, a4, c4, rfl, hm, s1, s2, s3, s4⟩⟩, hb⟩
  ·rw [h3 c0 c3]
   exact ⟨hdZ, none, 0, none, 0, 0, evZ, rfl, SS.nil _, ⟨rfl, ev_one0, fun h => absurd h c0, fun _ => ⟨rfl, rfl⟩, fun _ _ => rfl, fun h => absurd h c3⟩, hb⟩
end Go.Proofs.YthkpmlfaddlieaaGreatDoor
