/- Same, SameH, Few, Big. -/
import Derived.Test.YthgjdaomcpinaaaGreatDoorMg4
import Derived.Test.YthgjdaomcpinaaaGreatDoorMg5
import Derived.Test.YthgjdaomcpinaaaGreatDoorMg10
import Derived.Test.YthgjdaomcpinaaaGreatDoorMg22
set_option linter.unnecessarySimpa false

/- Lists of members held against one another; spoilt. -/
set_option linter.unusedSimpArgs false
set_option linter.unusedVariables false
namespace Go.Proofs.YthgjdaomcpinaaaGreatDoor
open Go.RowKit Pl

theorem member_fields : ((Tryz.prog).fieldsOf 130).toList.map (fun f => (f.type, f.offset, f.name == "_")) = [(9, 0, false), (3, 1, false)] := by kernel_rfl
set_option maxHeartbeats 1000000 in
@[go_sem high] theorem eq_member (n : Bs) (k : Int) (n2 : Bs) (k2 : Int) (d : Nat) (w : World) :
    (Op.equalIn (d + 2) 130 (.agg #[.string ⟨List.toArray (n)⟩, .int .i64 (k)]) (.agg #[.string ⟨List.toArray (n2)⟩, .int .i64 (k2)])).run Tryz.prog w = .ok (decide (n = n2) && decide (k = k2)) w := by
  rw [run_equalIn_struct w (d + 1) 130 _ _ (by kernel_rfl) (by kernel_rfl)]
  have hf := member_fields
  generalize ((Tryz.prog).fieldsOf 130).toList = l at *
  rcases l with _ | ⟨f0, _ | ⟨f1, _ | ⟨f2, l⟩⟩⟩ <;> simp at hf
  obtain ⟨⟨a1, a2, a3⟩, ⟨b1, b2, b3⟩⟩ := hf
  have q0 : ∀ (n : Bs) (k : Int), (part 9 #[.string ⟨List.toArray (n)⟩, .int .i64 (k)] 0).run Tryz.prog w = .ok (.string ⟨List.toArray (n)⟩) w := fun n k => run_part_plain w (by simp [Program.plainKey, Tryz.underlying9]) rfl
  have q1 : ∀ (n : Bs) (k : Int), (part 3 #[.string ⟨List.toArray (n)⟩, .int .i64 (k)] 1).run Tryz.prog w = .ok (.int .i64 (k)) w := fun n k => run_part_plain w (by simp [Program.plainKey, Tryz.underlying3]) rfl
  have e0 := run_equalIn_string (P := Tryz.prog) w d 9 ⟨List.toArray n⟩ ⟨List.toArray n2⟩ Tryz.underlying9
  have e1 := run_equalIn_int (P := Tryz.prog) w d 3 .i64 .i64 k k2 Tryz.underlying3
  rw [← beq_toListBytes, str_beq] at e0
  simp only [Op.eqFields, a1, a2, b1, b2, a3, b3, ne_eq, not_false_eq_true, if_true, Sem.run_bind, q0, q1, e0, e1, Result.andThen_ok]
  by_cases h0 : n = n2
  · subst h0
    by_cases h1 : k = k2
    · subst h1; simp [Sem.run_bind, Sem.run_ite, q0, q1, e0, e1]
    · simp [Sem.run_bind, Sem.run_ite, q0, q1, e0, e1, h1]
  · simp [Sem.run_bind, Sem.run_ite, q0, q1, e0, e1, h0]

theorem MS.drewN {w : World} {v : Value} {l : List (Bs × Int)} (h : MS w v l) (n : Nat) : MS (w.drewN n) v l := h.keep (below_drewN (Below.refl _ _) n)

set_option maxRecDepth 100000 in
set_option maxHeartbeats 1000000 in
theorem samemembers_any (u v : Value) (l m : List (Bs × Int)) (w : World) (hu : MS w u l) (hv : MS w v m) :
    Calls Tryz.prog 64 #[u, v] w fun e w' => e = .returned (.bool (decide (l = m))) ∧ ∃ n, w' = w.drewN n := by
  obtain ⟨a, c, rfl⟩ := hu.form
  obtain ⟨b, d, rfl⟩ := hv.form
  have hls := hu.small
  generalize hr : decide (l = m) = r
  have HR := Lib.hid hr
  clear hr
  by_cases hl : l.length = m.length
  · have hl1 : ((l.length : Int) == (m.length : Int)) = true := by simp; omega
    have HL := Lib.hid hl
    clear hl
    go_enter Tryz.func64, Tryz.ntmps64
    go_wp2_with fail
    go_loopw [5, 6] (fun s5 s6 wr => ∃ (i : Nat) (q : Bool), i ≤ l.length ∧ s6 = .int .i64 i ∧ s5 = .bool q ∧ Hid ((q = true → l.take i = m.take i) ∧ (q = false → l ≠ m)) ∧ ∃ n, wr = w.drewN n) (fun _ s6 _ => l.length - (intOf s6).toNat)
    case atStart => exact ⟨0, true, by omega, rfl, rfl, Lib.hid ⟨fun _ => rfl, fun h => by cases h⟩, 0, rfl⟩
    case round =>
      obtain ⟨i, q, hi, rfl, rfl, HQ, nq, rfl⟩ := hrel
      cases q
      · have HZ : Hid (r = false) := Lib.hid (by rw [← HR.out]; simp [HQ.out.2 rfl])
        clear HQ
        go_wp2_with fail
        go_ret
        exact ⟨by rw [HZ.out]; rfl, nq, rfl⟩
      · by_cases hlt : i < l.length
        · have hlt' : (i : Int) < (l.length : Int) := by omega
          have hlm : i < m.length := by rw [← HL.out]; exact hlt
          have hlm' : (i : Int) < (m.length : Int) := by omega
          obtain ⟨g, off, rfl, _, c1, c1'⟩ := hu.at i hlt
          obtain ⟨g2, off2, rfl, _, c2, c2'⟩ := hv.at i hlm
          have HS : Hid (l.take (i + 1) = m.take (i + 1) ↔ l.getD i ([], 0) = m.getD i ([], 0)) := Lib.hid (by
            rw [List.take_succ_eq_append_getElem hlt, List.take_succ_eq_append_getElem hlm, HQ.out.1 rfl, List.append_cancel_left_eq]
            simp [List.getD, List.getElem?_eq_getElem hlt, List.getElem?_eq_getElem hlm])
          have HD : Hid (l.getD i ([], 0) ≠ m.getD i ([], 0) → l ≠ m) := Lib.hid (fun h e => h (by rw [e]))
          generalize l.getD i ([], 0) = x at *
          generalize m.getD i ([], 0) = y at *
          obtain ⟨n1, p1⟩ := x
          obtain ⟨n2, p2⟩ := y
          simp only at c1 c1' c2 c2'
          have HU := Lib.hid hu
          have HV := Lib.hid hv
          clear hu hv
          go_wp2_with fail
          go_quiet (fail)
          go_wp2_with fail
          exact ⟨⟨i + 1, decide (n1 = n2) && decide (p1 = p2), by omega, by go_num, rfl, Lib.hid ⟨fun h => HS.out.2 (by simpa using h), fun h => HD.out (by simpa using h)⟩, _, rfl⟩, by simp [intOf]; omega⟩
        · have hie : i = l.length := by omega
          have hd : decide ((i : Int) < (l.length : Int)) = false := by simp; omega
          have HZ : Hid (r = true) := Lib.hid (by
            rw [← HR.out]
            have h := HQ.out.1 rfl
            rw [hie, List.take_length, HL.out, List.take_length] at h
            simp [h])
          clear HQ
          go_wp2_with fail
          go_ret
          exact ⟨by rw [HZ.out]; rfl, nq, rfl⟩
  · have hl1 : ((l.length : Int) == (m.length : Int)) = false := by rw [beq_eq_false_iff_ne]; omega
    have HZ : Hid (r = false) := Lib.hid (by rw [← HR.out]; simp; intro e; exact hl (by rw [e]))
    clear hl
    go_enter Tryz.func64, Tryz.ntmps64
    go_wp2_with fail
    go_loopw [5, 6] (fun s5 s6 wr => s5 = .bool false ∧ s6 = .int .i64 0 ∧ wr = w) (fun _ s6 _ => 0)
    case atStart => exact ⟨rfl, rfl, rfl⟩
    case round =>
      obtain ⟨rfl, rfl, rfl⟩ := hrel
      go_wp2_with fail
      go_ret
      exact ⟨by rw [HZ.out]; rfl, 0, rfl⟩

theorem any_set {w : World} {g n : Nat} (h : ∀ j, j < n → ∃ x : Value, w.cell? ⟨g, j, none⟩ = some x) (i : Nat) (hi : i < n) (v : Value) : ∀ j, j < n → ∃ x : Value, (w.setCell ⟨g, i, none⟩ v).cell? ⟨g, j, none⟩ = some x := by
  intro j hj
  by_cases e : j = i
  · subst e
    obtain ⟨x, hx⟩ := h j hj
    exact ⟨_, World.cell?_setCell_same _ _ _ hx⟩
  · obtain ⟨y, hy⟩ := h j hj
    exact ⟨y, by rw [World.cell?_setCell_other _ _ _ _ (fun h => e (by injection h with _ h2 _; exact h2.symm))]; exact hy⟩
theorem MSrc.any {w : World} {g : Nat} {l : List (Bs × Int)} (h : MSrc w g 0 l) : ∀ j, j < l.length * 2 → ∃ x : Value, w.cell? ⟨g, j, none⟩ = some x := by
  intro j hj
  obtain ⟨i, hi | hi⟩ : ∃ i, j = i * 2 ∨ j = i * 2 + 1 := ⟨j / 2, by omega⟩
  · subst hi
    have := (h i (by omega)).1
    rw [Nat.zero_add] at this
    exact ⟨_, this⟩
  · subst hi
    have := (h i (by omega)).2
    rw [Nat.zero_add] at this
    exact ⟨_, this⟩

set_option maxRecDepth 100000 in
set_option maxHeartbeats 1000000 in
theorem spoilm_any (base : Nat) (v : Value) (l : List (Bs × Int)) (w : World) (hv : MRow w base v l) :
    Calls Tryz.prog 95 #[v] w fun e w' => e = .returned (.tuple #[]) ∧ Mod v.ownBlock.toList w w' := by
  rcases hv.cells with ⟨rfl, rfl⟩ | ⟨g, cap, rfl, h1, h2, h3, h4, h5, h6⟩
  · go_enter Tryz.func95, Tryz.ntmps95
    go_wp2_with fail
    go_loopw [2] (fun s2 wr => s2 = .int .i64 0 ∧ wr = w) (fun s2 _ => 0)
    case atStart => exact ⟨rfl, rfl⟩
    case round =>
      obtain ⟨rfl, rfl⟩ := hrel
      go_wp2_with fail
      refine bodyPost_end (results_none rfl _ _ _) rfl ?_
      exact ⟨rfl, Mod.refl _ _⟩
  · unfold maxLen at h4
    have H5 := Lib.hid h5.any
    have H6 := Lib.hid h6
    clear h5 h6 hv
    go_enter Tryz.func95, Tryz.ntmps95
    go_wp2_with fail
    go_loopw [2] (fun s2 wr => ∃ i : Nat, i ≤ l.length ∧ s2 = .int .i64 i ∧ Hid (∀ j, j < l.length * 2 → ∃ x : Value, wr.cell? ⟨g, j, none⟩ = some x) ∧ Hid (∀ o, wr.frozen? ⟨g, o, none⟩ = false) ∧ Mod [g] w wr) (fun s2 _ => l.length - (intOf s2).toNat)
    case atStart => exact ⟨0, by omega, rfl, H5, H6, Mod.refl _ _⟩
    case round =>
      obtain ⟨i, hi, rfl, HC, HF, hm⟩ := hrel
      by_cases hlt : i < l.length
      · have hlt' : (i : Int) < (l.length : Int) := by omega
        obtain ⟨x, hx⟩ := HC.out (i * 2) (by omega)
        obtain ⟨y, hy⟩ := HC.out (i * 2 + 1) (by omega)
        have hf := HF.out (i * 2)
        have hf2 := HF.out (i * 2 + 1)
        go_wp2_with fail
        refine ⟨⟨i + 1, by omega, by go_num, Lib.hid (any_set (any_set HC.out _ (by omega) _) _ (by omega) _), Lib.hid (fun o => by rw [World.frozen?_setCell, World.frozen?_setCell]; exact HF.out o), (hm.setCell (.inl (by simp)) _).setCell (.inl (by simp)) _⟩, by simp [intOf]; omega⟩
      · have hlt' : ¬ (i : Int) < (l.length : Int) := by omega
        go_wp2_with fail
        refine bodyPost_end (results_none rfl _ _ _) rfl ?_
        exact ⟨rfl, hm⟩

end Go.Proofs.YthgjdaomcpinaaaGreatDoor

/- Are two headers the same? The program's walk. Printed by mksameh.py. -/
set_option linter.unusedSimpArgs false
set_option linter.unusedVariables false
namespace Go.Proofs.YthgjdaomcpinaaaGreatDoor
open Go.RowKit Go.Shelf Pl

namespace Pl
/-- Are two headers the same, skips and all? -/
def sameHd (a b : Hd) : Bool := decide (a.height = b.height) && decide (a.epoch = b.epoch) && decide (a.view = b.view) && decide (a.last = b.last) && decide (a.parent = b.parent) && decide (a.state = b.state) && decide (a.receipts = b.receipts) && decide (a.txs = b.txs) && decide (a.members = b.members) && decide (a.next = b.next) && sameL a.skips b.skips
/-- Are two that are trusted the same? -/
def sameTr (a b : Tr) : Bool := sameHd a.head b.head && decide (a.set = b.set) && decide (a.at_ = b.at_)
end Pl
set_option maxRecDepth 100000 in
set_option maxHeartbeats 4000000 in
theorem samehead_any (x1 x2 x3 : Int) (xb : Bool) (xp xs xr xt xm xn : Bs) (X : List Bs) (y1 y2 y3 : Int) (yb : Bool) (yp ys yr yt ym yn : Bs) (Y : List Bs) (u v : Value) (w : World) (hu : SS w u X) (hv : SS w v Y) :
    Calls Tryz.prog 63 #[.agg #[.int .i64 (x1), .int .i64 (x2), .int .i64 (x3), .bool xb, .string ⟨List.toArray (xp)⟩, .string ⟨List.toArray (xs)⟩, .string ⟨List.toArray (xr)⟩, .string ⟨List.toArray (xt)⟩, .string ⟨List.toArray (xm)⟩, .string ⟨List.toArray (xn)⟩, u], .agg #[.int .i64 (y1), .int .i64 (y2), .int .i64 (y3), .bool yb, .string ⟨List.toArray (yp)⟩, .string ⟨List.toArray (ys)⟩, .string ⟨List.toArray (yr)⟩, .string ⟨List.toArray (yt)⟩, .string ⟨List.toArray (ym)⟩, .string ⟨List.toArray (yn)⟩, v]] w fun e w' => e = .returned (.bool (sameHd ⟨x1, x2, x3, xb, xp, xs, xr, xt, xm, xn, X⟩ ⟨y1, y2, y3, yb, yp, ys, yr, yt, ym, yn, Y⟩)) ∧ Below w.heap.size w w' := by
  have B0 : Blk (w.alloc (.cells #[.int .i64 (x1), .int .i64 (x2), .int .i64 (x3), .bool xb, .string ⟨List.toArray (xp)⟩, .string ⟨List.toArray (xs)⟩, .string ⟨List.toArray (xr)⟩, .string ⟨List.toArray (xt)⟩, .string ⟨List.toArray (xm)⟩, .string ⟨List.toArray (xn)⟩, u] 24)) w.heap.size #[.int .i64 (x1), .int .i64 (x2), .int .i64 (x3), .bool xb, .string ⟨List.toArray (xp)⟩, .string ⟨List.toArray (xs)⟩, .string ⟨List.toArray (xr)⟩, .string ⟨List.toArray (xt)⟩, .string ⟨List.toArray (xm)⟩, .string ⟨List.toArray (xn)⟩, u] := Blk.new _ _ _
  have hb0 : Below w.heap.size w (w.alloc (.cells #[.int .i64 (x1), .int .i64 (x2), .int .i64 (x3), .bool xb, .string ⟨List.toArray (xp)⟩, .string ⟨List.toArray (xs)⟩, .string ⟨List.toArray (xr)⟩, .string ⟨List.toArray (xt)⟩, .string ⟨List.toArray (xm)⟩, .string ⟨List.toArray (xn)⟩, u] 24)) := Below.allocS (Below.refl _ _) _
  have B1 := B0.alloc (.cells #[.int .i64 (y1), .int .i64 (y2), .int .i64 (y3), .bool yb, .string ⟨List.toArray (yp)⟩, .string ⟨List.toArray (ys)⟩, .string ⟨List.toArray (yr)⟩, .string ⟨List.toArray (yt)⟩, .string ⟨List.toArray (ym)⟩, .string ⟨List.toArray (yn)⟩, v] 24)
  have hb1 := Below.allocS hb0 (.cells #[.int .i64 (y1), .int .i64 (y2), .int .i64 (y3), .bool yb, .string ⟨List.toArray (yp)⟩, .string ⟨List.toArray (ys)⟩, .string ⟨List.toArray (yr)⟩, .string ⟨List.toArray (yt)⟩, .string ⟨List.toArray (ym)⟩, .string ⟨List.toArray (yn)⟩, v] 24)
  have C1 : Blk ((w.alloc (.cells #[.int .i64 (x1), .int .i64 (x2), .int .i64 (x3), .bool xb, .string ⟨List.toArray (xp)⟩, .string ⟨List.toArray (xs)⟩, .string ⟨List.toArray (xr)⟩, .string ⟨List.toArray (xt)⟩, .string ⟨List.toArray (xm)⟩, .string ⟨List.toArray (xn)⟩, u] 24)).alloc (.cells #[.int .i64 (y1), .int .i64 (y2), .int .i64 (y3), .bool yb, .string ⟨List.toArray (yp)⟩, .string ⟨List.toArray (ys)⟩, .string ⟨List.toArray (yr)⟩, .string ⟨List.toArray (yt)⟩, .string ⟨List.toArray (ym)⟩, .string ⟨List.toArray (yn)⟩, v] 24)) (w.heap.size + 1) #[.int .i64 (y1), .int .i64 (y2), .int .i64 (y3), .bool yb, .string ⟨List.toArray (yp)⟩, .string ⟨List.toArray (ys)⟩, .string ⟨List.toArray (yr)⟩, .string ⟨List.toArray (yt)⟩, .string ⟨List.toArray (ym)⟩, .string ⟨List.toArray (yn)⟩, v] := Blk.new' (by simp)
  have q := fun W (hb : Below w.heap.size w W) => sametexts_any u v X Y W (hu.keep hb) (hv.keep hb)
  generalize hr : sameHd ⟨x1, x2, x3, xb, xp, xs, xr, xt, xm, xn, X⟩ ⟨y1, y2, y3, yb, yp, ys, yr, yt, ym, yn, Y⟩ = r
  have HR := Lib.hid hr
  clear hr
  by_cases e1 : x1 = y1
  case neg =>
    have HZ : Hid (r = false) := Lib.hid (by rw [← HR.out]; simp [sameHd, e1])
    clear HR q
    have e2 : (x1 == y1) = false := by simpa using e1
    have e3 : (x1 != y1) = true := by simpa using e1
    have e4 : decide (x1 = y1) = false := by simpa using e1
    have e5 : (!decide (x1 = y1)) = true := by simpa using e1
    obtain ⟨b1, b2, b3⟩ := id B1
    obtain ⟨c1, c2, c3⟩ := id C1
    clear e1 B1 C1
    go_enter Tryz.func63, Tryz.ntmps63
    go_wp2_with fail
    go_ret
    exact ⟨by rw [HZ.out]; rfl, hb1⟩
  subst e1
  by_cases e2 : x2 = y2
  case neg =>
    have HZ : Hid (r = false) := Lib.hid (by rw [← HR.out]; simp [sameHd, e2])
    clear HR q
    have e2 : (x2 == y2) = false := by simpa using e2
    have e3 : (x2 != y2) = true := by simpa using e2
    have e4 : decide (x2 = y2) = false := by simpa using e2
    have e5 : (!decide (x2 = y2)) = true := by simpa using e2
    obtain ⟨b1, b2, b3⟩ := id B1
    obtain ⟨c1, c2, c3⟩ := id C1
    clear e2 B1 C1
    go_enter Tryz.func63, Tryz.ntmps63
    go_wp2_with fail
    go_ret
    exact ⟨by rw [HZ.out]; rfl, hb1⟩
  subst e2
  by_cases e3 : x3 = y3
  case neg =>
    have HZ : Hid (r = false) := Lib.hid (by rw [← HR.out]; simp [sameHd, e3])
    clear HR q
    have e2 : (x3 == y3) = false := by simpa using e3
    have e3 : (x3 != y3) = true := by simpa using e3
    have e4 : decide (x3 = y3) = false := by simpa using e3
    have e5 : (!decide (x3 = y3)) = true := by simpa using e3
    obtain ⟨b1, b2, b3⟩ := id B1
    obtain ⟨c1, c2, c3⟩ := id C1
    clear e3 B1 C1
    go_enter Tryz.func63, Tryz.ntmps63
    go_wp2_with fail
    go_ret
    exact ⟨by rw [HZ.out]; rfl, hb1⟩
  subst e3
  by_cases eb : xb = yb
  case neg =>
    have HZ : Hid (r = false) := Lib.hid (by rw [← HR.out]; simp [sameHd, eb])
    clear HR q
    have e2 : (xb == yb) = false := by simpa using eb
    have e3 : (xb != yb) = true := by simpa using eb
    have e4 : decide (xb = yb) = false := by simpa using eb
    have e5 : (!decide (xb = yb)) = true := by simpa using eb
    obtain ⟨b1, b2, b3⟩ := id B1
    obtain ⟨c1, c2, c3⟩ := id C1
    clear eb B1 C1
    go_enter Tryz.func63, Tryz.ntmps63
    go_wp2_with fail
    go_ret
    exact ⟨by rw [HZ.out]; rfl, hb1⟩
  subst eb
  by_cases ep : xp = yp
  case neg =>
    have HZ : Hid (r = false) := Lib.hid (by rw [← HR.out]; simp [sameHd, ep])
    clear HR q
    have e2 : (xp == yp) = false := by simpa using ep
    have e3 : (xp != yp) = true := by simpa using ep
    have e4 : decide (xp = yp) = false := by simpa using ep
    have e5 : (!decide (xp = yp)) = true := by simpa using ep
    obtain ⟨b1, b2, b3⟩ := id B1
    obtain ⟨c1, c2, c3⟩ := id C1
    clear ep B1 C1
    go_enter Tryz.func63, Tryz.ntmps63
    go_wp2_with fail
    go_ret
    exact ⟨by rw [HZ.out]; rfl, hb1⟩
  subst ep
  by_cases es : xs = ys
  case neg =>
    have HZ : Hid (r = false) := Lib.hid (by rw [← HR.out]; simp [sameHd, es])
    clear HR q
    have e2 : (xs == ys) = false := by simpa using es
    have e3 : (xs != ys) = true := by simpa using es
    have e4 : decide (xs = ys) = false := by simpa using es
    have e5 : (!decide (xs = ys)) = true := by simpa using es
    obtain ⟨b1, b2, b3⟩ := id B1
    obtain ⟨c1, c2, c3⟩ := id C1
    clear es B1 C1
    go_enter Tryz.func63, Tryz.ntmps63
    go_wp2_with fail
    go_ret
    exact ⟨by rw [HZ.out]; rfl, hb1⟩
  subst es
  by_cases er : xr = yr
  case neg =>
    have HZ : Hid (r = false) := Lib.hid (by rw [← HR.out]; simp [sameHd, er])
    clear HR q
    have e2 : (xr == yr) = false := by simpa using er
    have e3 : (xr != yr) = true := by simpa using er
    have e4 : decide (xr = yr) = false := by simpa using er
    have e5 : (!decide (xr = yr)) = true := by simpa using er
    obtain ⟨b1, b2, b3⟩ := id B1
    obtain ⟨c1, c2, c3⟩ := id C1
    clear er B1 C1
    go_enter Tryz.func63, Tryz.ntmps63
    go_wp2_with fail
    go_ret
    exact ⟨by rw [HZ.out]; rfl, hb1⟩
  subst er
  by_cases et : xt = yt
  case neg =>
    have HZ : Hid (r = false) := Lib.hid (by rw [← HR.out]; simp [sameHd, et])
    clear HR q
    have e2 : (xt == yt) = false := by simpa using et
    have e3 : (xt != yt) = true := by simpa using et
    have e4 : decide (xt = yt) = false := by simpa using et
    have e5 : (!decide (xt = yt)) = true := by simpa using et
    obtain ⟨b1, b2, b3⟩ := id B1
    obtain ⟨c1, c2, c3⟩ := id C1
    clear et B1 C1
    go_enter Tryz.func63, Tryz.ntmps63
    go_wp2_with fail
    go_ret
    exact ⟨by rw [HZ.out]; rfl, hb1⟩
  subst et
  by_cases em : xm = ym
  case neg =>
    have HZ : Hid (r = false) := Lib.hid (by rw [← HR.out]; simp [sameHd, em])
    clear HR q
    have e2 : (xm == ym) = false := by simpa using em
    have e3 : (xm != ym) = true := by simpa using em
    have e4 : decide (xm = ym) = false := by simpa using em
    have e5 : (!decide (xm = ym)) = true := by simpa using em
    obtain ⟨b1, b2, b3⟩ := id B1
    obtain ⟨c1, c2, c3⟩ := id C1
    clear em B1 C1
    go_enter Tryz.func63, Tryz.ntmps63
    go_wp2_with fail
    go_ret
    exact ⟨by rw [HZ.out]; rfl, hb1⟩
  subst em
  by_cases en : xn = yn
  case neg =>
    have HZ : Hid (r = false) := Lib.hid (by rw [← HR.out]; simp [sameHd, en])
    clear HR q
    have e2 : (xn == yn) = false := by simpa using en
    have e3 : (xn != yn) = true := by simpa using en
    have e4 : decide (xn = yn) = false := by simpa using en
    have e5 : (!decide (xn = yn)) = true := by simpa using en
    obtain ⟨b1, b2, b3⟩ := id B1
    obtain ⟨c1, c2, c3⟩ := id C1
    clear en B1 C1
    go_enter Tryz.func63, Tryz.ntmps63
    go_wp2_with fail
    go_ret
    exact ⟨by rw [HZ.out]; rfl, hb1⟩
  subst en
  have HZ : Hid (r = sameL X Y) := Lib.hid (by rw [← HR.out]; simp [sameHd])
  clear HR
  obtain ⟨b1, b2, b3⟩ := id B1
  obtain ⟨c1, c2, c3⟩ := id C1
  go_enter Tryz.func63, Tryz.ntmps63
  go_wp2_with fail
  refine (q _ hb1).mono ?_
  rintro e w' ⟨rfl, k, rfl⟩
  go_wp2_with fail
  go_ret
  exact ⟨by rw [HZ.out]; rfl, below_drewN hb1 _⟩
set_option maxRecDepth 100000 in
set_option maxHeartbeats 4000000 in
theorem sametr_any (u v : Value) (t r : Tr) (w : World) (hu : TV w u t) (hv : TV w v r) :
    Calls Tryz.prog 14 #[u, v] w fun e w' => e = .returned (.bool (sameTr t r)) ∧ Below w.heap.size w w' := by
  obtain ⟨⟨x1, x2, x3, xb, xp, xs, xr, xt, xm, xn, X⟩, L, ta⟩ := t
  obtain ⟨⟨y1, y2, y3, yb, yp, ys, yr, yt, ym, yn, Y⟩, L2, tb⟩ := r
  obtain ⟨sk, ms, rfl, h1, h2⟩ := hu
  obtain ⟨sk2, ms2, rfl, h3, h4⟩ := hv
  simp only at h1 h2 h3 h4 ⊢
  have B0 : Blk (w.alloc (.cells #[.int .i64 (x1), .int .i64 (x2), .int .i64 (x3), .bool xb, .string ⟨List.toArray (xp)⟩, .string ⟨List.toArray (xs)⟩, .string ⟨List.toArray (xr)⟩, .string ⟨List.toArray (xt)⟩, .string ⟨List.toArray (xm)⟩, .string ⟨List.toArray (xn)⟩, sk, ms, .int .i64 (ta)] 27)) w.heap.size #[.int .i64 (x1), .int .i64 (x2), .int .i64 (x3), .bool xb, .string ⟨List.toArray (xp)⟩, .string ⟨List.toArray (xs)⟩, .string ⟨List.toArray (xr)⟩, .string ⟨List.toArray (xt)⟩, .string ⟨List.toArray (xm)⟩, .string ⟨List.toArray (xn)⟩, sk, ms, .int .i64 (ta)] := Blk.new _ _ _
  have hb0 : Below w.heap.size w (w.alloc (.cells #[.int .i64 (x1), .int .i64 (x2), .int .i64 (x3), .bool xb, .string ⟨List.toArray (xp)⟩, .string ⟨List.toArray (xs)⟩, .string ⟨List.toArray (xr)⟩, .string ⟨List.toArray (xt)⟩, .string ⟨List.toArray (xm)⟩, .string ⟨List.toArray (xn)⟩, sk, ms, .int .i64 (ta)] 27)) := Below.allocS (Below.refl _ _) _
  have B1 := B0.alloc (.cells #[.int .i64 (y1), .int .i64 (y2), .int .i64 (y3), .bool yb, .string ⟨List.toArray (yp)⟩, .string ⟨List.toArray (ys)⟩, .string ⟨List.toArray (yr)⟩, .string ⟨List.toArray (yt)⟩, .string ⟨List.toArray (ym)⟩, .string ⟨List.toArray (yn)⟩, sk2, ms2, .int .i64 (tb)] 27)
  have hb1 := Below.allocS hb0 (.cells #[.int .i64 (y1), .int .i64 (y2), .int .i64 (y3), .bool yb, .string ⟨List.toArray (yp)⟩, .string ⟨List.toArray (ys)⟩, .string ⟨List.toArray (yr)⟩, .string ⟨List.toArray (yt)⟩, .string ⟨List.toArray (ym)⟩, .string ⟨List.toArray (yn)⟩, sk2, ms2, .int .i64 (tb)] 27)
  have C1 : Blk ((w.alloc (.cells #[.int .i64 (x1), .int .i64 (x2), .int .i64 (x3), .bool xb, .string ⟨List.toArray (xp)⟩, .string ⟨List.toArray (xs)⟩, .string ⟨List.toArray (xr)⟩, .string ⟨List.toArray (xt)⟩, .string ⟨List.toArray (xm)⟩, .string ⟨List.toArray (xn)⟩, sk, ms, .int .i64 (ta)] 27)).alloc (.cells #[.int .i64 (y1), .int .i64 (y2), .int .i64 (y3), .bool yb, .string ⟨List.toArray (yp)⟩, .string ⟨List.toArray (ys)⟩, .string ⟨List.toArray (yr)⟩, .string ⟨List.toArray (yt)⟩, .string ⟨List.toArray (ym)⟩, .string ⟨List.toArray (yn)⟩, sk2, ms2, .int .i64 (tb)] 27)) (w.heap.size + 1) #[.int .i64 (y1), .int .i64 (y2), .int .i64 (y3), .bool yb, .string ⟨List.toArray (yp)⟩, .string ⟨List.toArray (ys)⟩, .string ⟨List.toArray (yr)⟩, .string ⟨List.toArray (yt)⟩, .string ⟨List.toArray (ym)⟩, .string ⟨List.toArray (yn)⟩, sk2, ms2, .int .i64 (tb)] := Blk.new' (by simp)
  have q1 := samehead_any x1 x2 x3 xb xp xs xr xt xm xn X y1 y2 y3 yb yp ys yr yt ym yn Y sk sk2 _ (h1.keep hb1) (h3.keep hb1)
  have q2 := fun W (hb : Below w.heap.size w W) => samemembers_any ms ms2 L L2 W (h2.keep hb) (h4.keep hb)
  rw [show sameTr ⟨⟨x1, x2, x3, xb, xp, xs, xr, xt, xm, xn, X⟩, L, ta⟩ ⟨⟨y1, y2, y3, yb, yp, ys, yr, yt, ym, yn, Y⟩, L2, tb⟩ = (sameHd ⟨x1, x2, x3, xb, xp, xs, xr, xt, xm, xn, X⟩ ⟨y1, y2, y3, yb, yp, ys, yr, yt, ym, yn, Y⟩ && decide (L = L2) && decide (ta = tb)) from rfl]
  generalize sameHd ⟨x1, x2, x3, xb, xp, xs, xr, xt, xm, xn, X⟩ ⟨y1, y2, y3, yb, yp, ys, yr, yt, ym, yn, Y⟩ = s1 at *
  generalize decide (L = L2) = s2 at *
  obtain ⟨b1, b2, b3⟩ := id B1
  obtain ⟨c1, c2, c3⟩ := id C1
  cases s1
  · go_enter Tryz.func14, Tryz.ntmps14
    go_wp2_with fail
    refine q1.mono ?_
    rintro e w1 ⟨rfl, hb⟩
    have B2 := B1.keep hb
    have C2 := C1.keep hb
    have hb2 := hb1.trans (hb.mono hb1.size)
    clear q1 q2 b1 b2 b3 c1 c2 c3 hb B0 hb0 B1 C1
    obtain ⟨b1, b2, b3⟩ := id B2
    obtain ⟨c1, c2, c3⟩ := id C2
    go_wp2_with fail
    go_ret
    exact ⟨rfl, hb2⟩
  · cases s2
    · go_enter Tryz.func14, Tryz.ntmps14
      go_wp2_with fail
      refine q1.mono ?_
      rintro e w1 ⟨rfl, hb⟩
      have B2 := B1.keep hb
      have C2 := C1.keep hb
      have hb2 := hb1.trans (hb.mono hb1.size)
      have q2 := q2 _ hb2
      clear q1 b1 b2 b3 c1 c2 c3 hb B0 hb0 B1 C1
      obtain ⟨b1, b2, b3⟩ := id B2
      obtain ⟨c1, c2, c3⟩ := id C2
      go_wp2_with fail
      refine q2.mono ?_
      rintro e w2 ⟨rfl, k, rfl⟩
      go_wp2_with fail
      go_ret
      exact ⟨rfl, below_drewN hb2 _⟩
    · go_enter Tryz.func14, Tryz.ntmps14
      go_wp2_with fail
      refine q1.mono ?_
      rintro e w1 ⟨rfl, hb⟩
      have B2 := B1.keep hb
      have C2 := C1.keep hb
      have hb2 := hb1.trans (hb.mono hb1.size)
      have q2 := q2 _ hb2
      clear q1 b1 b2 b3 c1 c2 c3 hb B0 hb0 B1 C1
      obtain ⟨b1, b2, b3⟩ := id B2
      obtain ⟨c1, c2, c3⟩ := id C2
      go_wp2_with fail
      refine q2.mono ?_
      rintro e w2 ⟨rfl, k, rfl⟩
      clear b1 b2 b3 c1 c2 c3
      obtain ⟨b1, b2, b3⟩ := id (B2.drewN k)
      obtain ⟨c1, c2, c3⟩ := id (C2.drewN k)
      go_wp2_with fail
      go_ret
      exact ⟨by first | rfl | (exact ret_bool (by simp)), below_drewN hb2 _⟩
end Go.Proofs.YthgjdaomcpinaaaGreatDoor

/- Are texts few, and short? -/
set_option linter.unusedSimpArgs false
set_option linter.unusedVariables false
namespace Go.Proofs.YthgjdaomcpinaaaGreatDoor
open Go.RowKit Pl

namespace Pl
def fewA (each : Int) (l : List Bs) : Bool := l.all fun x => decide ((x.length : Int) ≤ each)
def fewP (l : List Bs) (n each : Int) : Bool := decide ((l.length : Int) ≤ n) && fewA each l
theorem fewA_drop (each : Int) (l : List Bs) (i : Nat) (hi : i < l.length) : fewA each (l.drop i) = (decide (((l.getD i []).length : Int) ≤ each) && fewA each (l.drop (i + 1))) := by
  rw [dropS l i hi]
  rfl
theorem fewP_parts {l : List Bs} {n each : Int} (h : fewP l n each = true) : (l.length : Int) ≤ n ∧ ∀ i, i < l.length → ((l.getD i []).length : Int) ≤ each := by
  simp only [fewP, Bool.and_eq_true, decide_eq_true_eq] at h
  refine ⟨h.1, fun i hi => ?_⟩
  have := List.all_eq_true.1 h.2 (l.getD i []) (by rw [List.getD_eq_getElem?_getD, List.getElem?_eq_getElem hi]; exact List.getElem_mem hi)
  simpa using this
end Pl

set_option maxRecDepth 100000 in
set_option maxHeartbeats 400000 in
theorem few_any (v : Value) (l : List Bs) (n each : Int) (w : World) (hv : SS w v l) :
    Calls Tryz.prog 46 #[v, .int .i64 (n), .int .i64 (each)] w fun e w' => e = .returned (.bool (fewP l n each)) ∧ Below w.heap.size w w' := by
  generalize hr : fewP l n each = r
  have HR := Lib.hid hr
  clear hr
  obtain ⟨a, c, rfl⟩ := hv.form
  have HV := Lib.hid hv
  have hm := hv.small
  clear hv
  by_cases hn : n < (l.length : Int)
  · have hd : decide (n < (l.length : Int)) = true := by simpa using hn
    have HZ : Hid (false = r) := Lib.hid (by rw [← HR.out]; have : ¬ (l.length : Int) ≤ n := (by omega); simp [fewP, this])
    go_enter Tryz.func46, Tryz.ntmps46
    go_wp2_with fail
    all_goals (go_ret; exact ⟨by rw [← HZ.out]; rfl, Below.refl _ _⟩)
  · have hd : decide (n < (l.length : Int)) = false := by simpa using hn
    have HZ : Hid (fewA each l = r) := Lib.hid (by rw [← HR.out]; have : (l.length : Int) ≤ n := (by omega); simp [fewP, this])
    clear HR
    go_enter Tryz.func46, Tryz.ntmps46
    go_wp2_with fail
    go_loopw [7] (fun s7 wr => ∃ i : Nat, i ≤ l.length ∧ s7 = .int .i64 i ∧ Hid (fewA each (l.drop i) = r) ∧ Below w.heap.size w wr) (fun s7 _ => l.length - (intOf s7).toNat)
    case atStart => exact ⟨0, by omega, rfl, Lib.hid HZ.out, Below.refl _ _⟩
    case round =>
      obtain ⟨i, hi, rfl, HI, hb⟩ := hrel
      obtain ⟨wq, h⟩ := Below.nm hb
      subst h
      by_cases hlt : i < l.length
      · have hlt' : (i : Int) < (l.length : Int) := by omega
        obtain ⟨g, off, rfl, c1⟩ := (HV.out.keep hb).at i hlt
        have hi2 := HI.out
        rw [fewA_drop each l i hlt] at hi2
        generalize hx : l.getD i [] = x at *
        have HX := Lib.hid hx
        clear hx
        by_cases hle : each < (x.length : Int)
        · have hd2 : decide (each < (x.length : Int)) = true := by simpa using hle
          have HQ : Hid (false = r) := Lib.hid (by rw [← hi2]; have : ¬ (x.length : Int) ≤ each := (by omega); simp [this])
          clear HI hi2 HZ
          go_wp2_with fail
          all_goals (go_ret; exact ⟨by rw [← HQ.out]; rfl, hb⟩)
        · have hd2 : decide (each < (x.length : Int)) = false := by simpa using hle
          have HQ : Hid (fewA each (l.drop (i + 1)) = r) := Lib.hid (by rw [← hi2]; have : (x.length : Int) ≤ each := (by omega); simp [this])
          clear HI hi2 HZ
          go_wp2_with fail
          exact ⟨⟨i + 1, by omega, by go_num, HQ, hb⟩, by simp [intOf]; omega⟩
      · obtain rfl : i = l.length := by omega
        have hlt' : ¬ (l.length : Int) < (l.length : Int) := by omega
        have HQ : Hid (true = r) := Lib.hid (by rw [← HI.out]; simp [fewA])
        clear HI HZ
        go_wp2_with fail
        all_goals (go_ret; exact ⟨by rw [← HQ.out]; rfl, hb⟩)

end Go.Proofs.YthgjdaomcpinaaaGreatDoor

/- Is it too long to be looked at? The program's walk. Printed by mkbig.py. -/
set_option linter.unusedSimpArgs false
set_option linter.unusedVariables false
namespace Go.Proofs.YthgjdaomcpinaaaGreatDoor
open Go.RowKit Go.Shelf Pl

namespace Pl
def overS (s : Bs) : Bool := decide ((100 : Int) < (s.length : Int))
def bigT (t : Tr) : Bool := !fewP t.head.skips 40 100 || overS t.head.parent || overS t.head.state || overS t.head.receipts || overS t.head.txs || overS t.head.members || overS t.head.next || decide ((100 : Int) < (t.set.length : Int))
end Pl
set_option maxRecDepth 100000 in
set_option maxHeartbeats 4000000 in
theorem big_any (u : Value) (t : Tr) (w : World) (hu : TV w u t) :
    Calls Tryz.prog 8 #[u] w fun e w' => e = .returned (.bool (bigT t)) ∧ Below w.heap.size w w' := by
  obtain ⟨⟨a1, a2, a3, lb, pa, st, rc, tx, me, ne, K⟩, L, ta⟩ := t
  obtain ⟨sk, ms, rfl, h1, h2⟩ := hu
  simp only at h1 h2 ⊢
  obtain ⟨ka, kc, rfl⟩ := h1.form
  obtain ⟨ma, mc, rfl⟩ := h2.form
  have B0 : Blk (w.alloc (.cells #[.int .i64 (a1), .int .i64 (a2), .int .i64 (a3), .bool lb, .string ⟨List.toArray (pa)⟩, .string ⟨List.toArray (st)⟩, .string ⟨List.toArray (rc)⟩, .string ⟨List.toArray (tx)⟩, .string ⟨List.toArray (me)⟩, .string ⟨List.toArray (ne)⟩, .slice ka K.length kc, .slice ma L.length mc, .int .i64 (ta)] 27)) w.heap.size #[.int .i64 (a1), .int .i64 (a2), .int .i64 (a3), .bool lb, .string ⟨List.toArray (pa)⟩, .string ⟨List.toArray (st)⟩, .string ⟨List.toArray (rc)⟩, .string ⟨List.toArray (tx)⟩, .string ⟨List.toArray (me)⟩, .string ⟨List.toArray (ne)⟩, .slice ka K.length kc, .slice ma L.length mc, .int .i64 (ta)] := Blk.new _ _ _
  have hb0 : Below w.heap.size w (w.alloc (.cells #[.int .i64 (a1), .int .i64 (a2), .int .i64 (a3), .bool lb, .string ⟨List.toArray (pa)⟩, .string ⟨List.toArray (st)⟩, .string ⟨List.toArray (rc)⟩, .string ⟨List.toArray (tx)⟩, .string ⟨List.toArray (me)⟩, .string ⟨List.toArray (ne)⟩, .slice ka K.length kc, .slice ma L.length mc, .int .i64 (ta)] 27)) := Below.allocS (Below.refl _ _) _
  have B1 := B0.alloc (.cells #[.int .i64 (0), .int .i64 (0), .int .i64 (0), .bool false, .string ⟨List.toArray ([])⟩, .string ⟨List.toArray ([])⟩, .string ⟨List.toArray ([])⟩, .string ⟨List.toArray ([])⟩, .string ⟨List.toArray ([])⟩, .string ⟨List.toArray ([])⟩, .slice none 0 0] 24)
  have hb1 := Below.allocS hb0 (.cells #[.int .i64 (0), .int .i64 (0), .int .i64 (0), .bool false, .string ⟨List.toArray ([])⟩, .string ⟨List.toArray ([])⟩, .string ⟨List.toArray ([])⟩, .string ⟨List.toArray ([])⟩, .string ⟨List.toArray ([])⟩, .string ⟨List.toArray ([])⟩, .slice none 0 0] 24)
  have q := fun W (hb : Below w.heap.size w W) => few_any _ K 40 100 W (h1.keep hb)
  have hl2 := h2.small
  generalize hr : bigT ⟨⟨a1, a2, a3, lb, pa, st, rc, tx, me, ne, K⟩, L, ta⟩ = r
  have HR := Lib.hid hr
  clear hr
  generalize hf : fewP K 40 100 = f at q
  have HF := Lib.hid hf
  clear hf
  obtain ⟨b1, b2, b3⟩ := id B0
  go_enter Tryz.func8, Tryz.ntmps8
  go_wp2_with (first | (refine wpList_rowStore row_head rfl rfl (.tmp 3) (.tmp 5) rfl rfl rfl (vs := [.int .i64 (a1), .int .i64 (a2), .int .i64 (a3), .bool lb, .string ⟨List.toArray (pa)⟩, .string ⟨List.toArray (st)⟩, .string ⟨List.toArray (rc)⟩, .string ⟨List.toArray (tx)⟩, .string ⟨List.toArray (me)⟩, .string ⟨List.toArray (ne)⟩, .slice ka K.length kc]) rfl (by simp [Value.oneCell']) (us := [.int .i64 (0), .int .i64 (0), .int .i64 (0), .bool false, .string ⟨List.toArray ([])⟩, .string ⟨List.toArray ([])⟩, .string ⟨List.toArray ([])⟩, .string ⟨List.toArray ([])⟩, .string ⟨List.toArray ([])⟩, .string ⟨List.toArray ([])⟩, .slice none 0 0]) rfl (Blk.new' (by simp)) ?_; intro w2 N2 m2; obtain ⟨c1, c2, c3⟩ := id N2))
  have B2 := B1.mod m2 (by simp)
  have hb2 := Below.mod hb1 m2 hb1.size (by simp)
  clear b1 b2 b3 c1 c2 c3 B0 hb0 B1 hb1
  refine (q _ hb2).mono ?_
  rintro e w3 ⟨rfl, hb⟩
  have B3 := B2.keep hb
  have N3 := N2.keep hb
  have hb3 := hb2.trans (hb.mono hb2.size)
  clear q hb B2 hb2 N2 m2
  obtain ⟨b1, b2, b3⟩ := id B3
  obtain ⟨c1, c2, c3⟩ := id N3
  clear B3 N3
  cases f
  · have HZ : Hid (r = true) := Lib.hid (by rw [← HR.out]; simp [bigT, HF.out])
    clear HR HF
    go_wp2_with fail
    go_ret
    exact ⟨by rw [HZ.out]; rfl, hb3⟩
  by_cases gpa : (100 : Int) < (pa.length : Int)
  · have e1 : decide ((100 : Int) < (pa.length : Int)) = true := by simpa using gpa
    have HZ : Hid (r = true) := Lib.hid (by rw [← HR.out]; simp [bigT, overS, e1])
    clear HR HF
    go_wp2_with fail
    go_ret
    exact ⟨by rw [HZ.out]; rfl, hb3⟩
  have dpa : decide ((100 : Int) < (pa.length : Int)) = false := by simpa using gpa
  clear gpa
  by_cases gst : (100 : Int) < (st.length : Int)
  · have e1 : decide ((100 : Int) < (st.length : Int)) = true := by simpa using gst
    have HZ : Hid (r = true) := Lib.hid (by rw [← HR.out]; simp [bigT, overS, e1])
    clear HR HF
    go_wp2_with fail
    go_ret
    exact ⟨by rw [HZ.out]; rfl, hb3⟩
  have dst : decide ((100 : Int) < (st.length : Int)) = false := by simpa using gst
  clear gst
  by_cases grc : (100 : Int) < (rc.length : Int)
  · have e1 : decide ((100 : Int) < (rc.length : Int)) = true := by simpa using grc
    have HZ : Hid (r = true) := Lib.hid (by rw [← HR.out]; simp [bigT, overS, e1])
    clear HR HF
    go_wp2_with fail
    go_ret
    exact ⟨by rw [HZ.out]; rfl, hb3⟩
  have drc : decide ((100 : Int) < (rc.length : Int)) = false := by simpa using grc
  clear grc
  by_cases gtx : (100 : Int) < (tx.length : Int)
  · have e1 : decide ((100 : Int) < (tx.length : Int)) = true := by simpa using gtx
    have HZ : Hid (r = true) := Lib.hid (by rw [← HR.out]; simp [bigT, overS, e1])
    clear HR HF
    go_wp2_with fail
    go_ret
    exact ⟨by rw [HZ.out]; rfl, hb3⟩
  have dtx : decide ((100 : Int) < (tx.length : Int)) = false := by simpa using gtx
  clear gtx
  by_cases gme : (100 : Int) < (me.length : Int)
  · have e1 : decide ((100 : Int) < (me.length : Int)) = true := by simpa using gme
    have HZ : Hid (r = true) := Lib.hid (by rw [← HR.out]; simp [bigT, overS, e1])
    clear HR HF
    go_wp2_with fail
    go_ret
    exact ⟨by rw [HZ.out]; rfl, hb3⟩
  have dme : decide ((100 : Int) < (me.length : Int)) = false := by simpa using gme
  clear gme
  by_cases gne : (100 : Int) < (ne.length : Int)
  · have e1 : decide ((100 : Int) < (ne.length : Int)) = true := by simpa using gne
    have HZ : Hid (r = true) := Lib.hid (by rw [← HR.out]; simp [bigT, overS, e1])
    clear HR HF
    go_wp2_with fail
    go_ret
    exact ⟨by rw [HZ.out]; rfl, hb3⟩
  have dne : decide ((100 : Int) < (ne.length : Int)) = false := by simpa using gne
  clear gne
  have HZ : Hid (r = decide ((100 : Int) < (L.length : Int))) := Lib.hid (by rw [← HR.out]; simp only [bigT, overS, HF.out, dpa, dst, drc, dtx, dme, dne]; simp)
  clear HR HF
  go_wp2_with fail
  go_ret
  exact ⟨by rw [HZ.out]; first | rfl | (exact ret_bool (by simp)), hb3⟩
end Go.Proofs.YthgjdaomcpinaaaGreatDoor
