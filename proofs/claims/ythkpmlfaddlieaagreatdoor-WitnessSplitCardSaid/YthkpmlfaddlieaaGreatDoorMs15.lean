/- WMade, Sign, Cert, CertC, CheckC, Gather. -/
import Derived.Test.YthkpmlfaddlieaaGreatDoorMs14
set_option linter.unnecessarySimpa false
set_option linter.unusedSimpArgs false
set_option linter.unusedVariables false
set_option maxRecDepth 100000
set_option maxHeartbeats 32000000
namespace Go.Proofs.YthkpmlfaddlieaaGreatDoor
open Go.RowKit Go.Shelf Pl
def wdcs (va vs : Value) (many : Int) (vb : Value) : List Value := [va, vs, .int .i64 many, vb]
theorem row_wd : RowT Tryz.prog 26 4 := RowT.mk' Tryz.underlying26 rfl (by kernel_rfl)
def MadeO (W : World) (S : List (Bs × Int)) (e : Ending) (w' : World) : Prop := Below W.heap.size W w' ∧
 (e = .returned (.slice none 0 0) ∨ (∃ v E, e = .returned v ∧ EL w' v E ∧ LedI S E ∧ 2 ≤ E.length ∧ E.length ≤ 6))
theorem made_any (A : List Acc) (S : List (Bs × Int)) (many : Int) (va vs vb : Value) (w : World) (hA : AcL w va A) (hS : MS w vs S) :
  Calls Tryz.prog 6 #[.agg (wdcs va vs many vb).toArray] w (MadeO w S) := by
 have B0 : Blk (w.alloc (.cells (wdcs va vs many vb).toArray 26)) w.heap.size (wdcs va vs many vb).toArray := Blk.new _ _ _
 have hb0 : Below w.heap.size w (w.alloc (.cells (wdcs va vs many vb).toArray 26)) := Below.allocS (Below.refl _ _) _
 have q1 := rnew_any va vs A S _ (hA.keep hb0) (hS.keep hb0)
 have qb := fun W => below_any many 5 (by decide) (by decide) W
 have hK := modN_lt many 5 (by decide)
 obtain ⟨aa, ac, rfl⟩ := hA.form
 obtain ⟨sa, sc, rfl⟩ := hS.form
 generalize modN many 5 = K at *
 have c0 := B0.cell 0
 have c1 := B0.cell 1
 simp only [wdcs, List.getElem?_toArray, List.getElem?_cons_zero, List.getElem?_cons_succ] at c0 c1
 go_enter Tryz.func6, Tryz.ntmps6
 simp only [wdcs] at q1 c0 c1 B0 hb0 ⊢
 generalize hW : w.alloc (.cells (List.toArray [.slice aa A.length ac, .slice sa S.length sc, .int .i64 many, vb]) 26) = W at *
 go_wp2_with fail
 have B0' : Blk W w.heap.size (List.toArray [.slice aa A.length ac, .slice sa S.length sc, .int .i64 many, vb]) := B0
 have hbW : Below w.heap.size w W := hb0
 clear B0 hb0 hW
 refine q1.mono ?_
 rintro e w1 ⟨hb1, ⟨c, hc, rfl⟩ | ⟨v, E, rfl, hel, hled, hl1⟩⟩
 ·have hc2 : (c != 0) = true := by simpa using hc
  clear q1 qb
  go_wp2_with fail
  go_ret
  exact ⟨hbW.trans (hb1.mono hbW.size), .inl rfl⟩
 ·have HEL := Lib.hid hel
  have HLE := Lib.hid hled
  have hb01 := hbW.trans (hb1.mono hbW.size)
  have hB1 := B0'.keep hb1
  have HB1 := Lib.hid hB1
  clear q1 hel hled hb1 hB1 c0 c1 B0'
  go_wp2_with fail
  go_loopw [3, 5] (fun s3 s5 wr => ∃ (i : Nat) (E : List Ent), s5 = .int .i64 i ∧ i ≤ K + 1 ∧ Hid (EL wr s3 E) ∧ Hid (LedI S E) ∧ E.length = i + 1 ∧ Hid (Blk wr w.heap.size (List.toArray [.slice aa A.length ac, .slice sa S.length sc, .int .i64 many, vb])) ∧ Below w.heap.size w wr) (fun _ s5 _ => K + 1 - (intOf s5).toNat)
  case atStart => exact ⟨0, E, rfl, by omega, HEL, HLE, hl1, HB1, hb01⟩
  case round =>
   clear HEL HLE HB1 hb01
   obtain ⟨i, E, rfl, hi, HEL, HLE, hle, HB, hb⟩ := hrel
   obtain ⟨wr, hwr⟩ := Below.name hb
   subst hwr
   obtain ⟨ea, ec, hee⟩ := HEL.out.form
   have c2 := HB.out.cell 2
   simp only [List.getElem?_toArray, List.getElem?_cons_zero, List.getElem?_cons_succ] at c2
   have hi1 : IntKind.i64.wrap ((K : Int) + 1) = (K : Int) + 1 := by rw [IntKind.wrap_i64]; omega
   have hi2 : IntKind.i64.wrap ((i : Int) + 1) = (i : Int) + 1 := by rw [IntKind.wrap_i64]; omega
   by_cases hlt : i < K + 1
   ·have i1 : decide ((i : Int) < (K : Int) + 1) = true := by rw [decide_eq_true_eq]; omega
    have qa := radd_ent u3 E S wr HLE.out HEL.out (by omega)
    rw [hle] at qa hee
    rw [show (((i + 1 : Nat)) : Int) = (i : Int) + 1 from rfl] at qa
    subst hee
    have HLT := Lib.hid hlt
    clear hlt
    go_wp2_with fail
    refine (qb _).mono ?_
    rintro e w2 ⟨rfl, rfl⟩
    go_wp2_with fail
    refine qa.mono ?_
    rintro e w3 ⟨v3, E3, rfl, hel3, hled3, hl3, hb3⟩
    have HEL3 := Lib.hid hel3
    have HLE3 := Lib.hid hled3
    have HB3 := Lib.hid (HB.out.keep hb3)
    have HW3 := Lib.hid (hb.trans (hb3.mono hb.size))
    clear qa hel3 hled3 hb3
    go_wp2_with fail
    exact ⟨⟨i + 1, E3, by go_num, by have := HLT.out; omega, HEL3, HLE3, hl3, HB3, HW3.out⟩, by have := HLT.out; simp [intOf]; omega⟩
   ·have i1 : decide ((i : Int) < (K : Int) + 1) = false := by rw [decide_eq_false_iff_not]; omega
    have h2 : 2 ≤ E.length := by omega
    rw [hle] at hee
    subst hee
    clear hlt
    go_wp2_with fail
    refine (qb _).mono ?_
    rintro e w2 ⟨rfl, rfl⟩
    go_wp2_with fail
    go_ret
    exact ⟨hb, .inr ⟨_, E, rfl, HEL.out, HLE.out, h2, by omega⟩⟩
def badB (B : List Bs) (n : Bs) : Bool := B.any fun x => x == n
theorem bad_take (B : List Bs) (n : Bs) (i : Nat) (hi : i < B.length) : badB (B.take (i + 1)) n = (badB (B.take i) n || (B.getD i [] == n)) := by
 unfold badB
 rw [List.take_add_one, List.getElem?_eq_getElem hi, List.any_append, List.getD_eq_getElem?_getD, List.getElem?_eq_getElem hi]
 simp
theorem bad_at (B : List Bs) (n : Bs) (i : Nat) (hi : i < B.length) (h : B.getD i [] = n) : badB B n = true := by
 unfold badB
 rw [List.any_eq_true]
 refine ⟨B.getD i [], ?_, by simpa using h⟩
 rw [List.getD_eq_getElem?_getD, List.getElem?_eq_getElem hi]
 exact List.getElem_mem _
theorem isbad_any (va vs vb : Value) (many : Int) (B : List Bs) (n : Bs) (w : World) (hB : SS w vb B) :
  Calls Tryz.prog 16 #[.agg (wdcs va vs many vb).toArray, .string ⟨n.toArray⟩] w fun e w' => e = .returned (.bool (badB B n)) ∧ Below w.heap.size w w' := by
 have B0 : Blk (w.alloc (.cells (wdcs va vs many vb).toArray 26)) w.heap.size (wdcs va vs many vb).toArray := Blk.new _ _ _
 have hb0 : Below w.heap.size w (w.alloc (.cells (wdcs va vs many vb).toArray 26)) := Below.allocS (Below.refl _ _) _
 have HV := Lib.hid (hB.keep hb0)
 obtain ⟨ba, bc, rfl⟩ := hB.form
 have hls := hB.small
 have c3 := B0.cell 3
 simp only [wdcs, List.getElem?_toArray, List.getElem?_cons_zero, List.getElem?_cons_succ] at c3
 have hb1 : Below w.heap.size w (w.alloc (.cells (wdcs va vs many (.slice ba B.length bc)).toArray 26)) := hb0
 generalize hr : badB B n = r
 have HR := Lib.hid hr
 clear B0 hB hb0 hr
 go_enter Tryz.func16, Tryz.ntmps16
 simp only [wdcs] at c3 HV hb1 ⊢
 go_wp2_with fail
 generalize w.alloc (.cells (List.toArray [va, vs, .int .i64 many, .slice ba B.length bc]) 26) = W at *
 go_loopw [5] (fun s5 wr => ∃ i : Nat, s5 = .int .i64 i ∧ i ≤ B.length ∧ Hid (badB (B.take i) n = false) ∧ wr = W) (fun s5 _ => B.length - (intOf s5).toNat)
 case atStart => exact ⟨0, rfl, by omega, Lib.hid rfl, rfl⟩
 case round =>
  obtain ⟨i, rfl, hi, HF, rfl⟩ := hrel
  by_cases hlt : i < B.length
  ·have i1 : decide ((i : Int) < (B.length : Int)) = true := by simp; omega
   have i2 : (i : Int) < (B.length : Int) := by omega
   obtain ⟨g, off, e1, c1⟩ := HV.out.at i hlt
   subst e1
   have HT := Lib.hid (bad_take B n i hlt)
   have HA := Lib.hid (bad_at B n i hlt)
   have HL := Lib.hid hlt
   generalize B.getD i [] = x at *
   clear hlt
   by_cases hx : x = n
   ·have k1 : (x == n) = true := by simpa using hx
    have HE : Hid (r = true) := Lib.hid (by rw [← HR.out]; exact HA.out hx)
    clear hx
    go_wp2_with fail
    go_ret
    exact ⟨by rw [HE.out]; rfl, hb1⟩
   ·have k1 : (x == n) = false := by simpa using hx
    have HF2 : Hid (badB (B.take (i + 1)) n = false) := Lib.hid (by rw [HT.out, HF.out, k1]; rfl)
    clear hx
    go_wp2_with fail
    exact ⟨⟨i + 1, by go_num, by have := HL.out; omega, HF2, trivial⟩, by have := HL.out; simp [intOf]; omega⟩
  ·have i1 : decide ((i : Int) < (B.length : Int)) = false := by simp; omega
   have HE : Hid (r = false) := Lib.hid (by rw [← HR.out]; have := HF.out; rwa [List.take_of_length_le (by omega)] at this)
   have i3 : decide (i < B.length) = false := by rw [decide_eq_false_iff_not]; omega
   have i4 : ¬ i < B.length := by omega
   go_wp2_with fail
   go_ret
   exact ⟨by rw [HE.out]; rfl, hb1⟩
def BoL (w : World) (v : Value) (l : List Bool) : Prop :=
 ∃ a cap, v = .slice a l.length cap ∧ l.length ≤ cap ∧ cap ≤ maxLen ∧ (l ≠ [] → ∃ g off, a = some ⟨g, off, none⟩ ∧ g < w.heap.size ∧ ∀ i, i < l.length → w.cell? ⟨g, off + i, none⟩ = some (.bool (l.getD i false)))
theorem BoL.keep {W w : World} {v : Value} {l : List Bool} (h : BoL W v l) (hb : Below W.heap.size W w) : BoL w v l := by
 obtain ⟨a, cap, h1, h2, h3, h4⟩ := h
 refine ⟨a, cap, h1, h2, h3, fun hl => ?_⟩
 obtain ⟨g, off, e, hg, hc⟩ := h4 hl
 exact ⟨g, off, e, Nat.lt_of_lt_of_le hg hb.size, fun i hi => (hb.cell (p := ⟨g, off + i, none⟩) hg).trans (hc i hi)⟩
theorem BoL.form {w : World} {v : Value} {l : List Bool} (h : BoL w v l) : ∃ a c, v = .slice a l.length c := by
 obtain ⟨a, cap, h1, _⟩ := h
 exact ⟨a, cap, h1⟩
theorem BoL.small {w : World} {v : Value} {l : List Bool} (h : BoL w v l) : l.length ≤ 9223372036854775807 := by
 obtain ⟨a, cap, h1, h2, h3, _⟩ := h
 unfold maxLen at h3; omega
theorem BoL.at {w : World} {a : Option Addr} {c : Nat} {l : List Bool} (h : BoL w (.slice a l.length c) l) (i : Nat) (hi : i < l.length) :
  ∃ g off, a = some ⟨g, off, none⟩ ∧ g < w.heap.size ∧ w.cell? ⟨g, off + i, none⟩ = some (.bool (l.getD i false)) := by
 obtain ⟨a', cap, h1, _, _, h5⟩ := h
 injection h1 with h1 _ _
 obtain ⟨g, off, e, hg, hc⟩ := h5 (by intro e; rw [e] at hi; simp at hi)
 exact ⟨g, off, h1.trans e, hg, hc i hi⟩
def namedL (S : List (Bs × Int)) (l : List Bool) : Nat → List Bs
 | 0 => []
 | i + 1 => namedL S l i ++ (if l.length ≤ i ∨ l.getD i false = true then [(S.getD i ([], 0)).1] else [])
theorem namedL_len (S : List (Bs × Int)) (l : List Bool) : ∀ i, (namedL S l i).length ≤ i
 | 0 => Nat.le_refl _
 | i + 1 => by
  have := namedL_len S l i
  unfold namedL
  rw [List.length_append]
  split <;> simp <;> omega
def NamO (W : World) (L : List Bs) (e : Ending) (w' : World) : Prop := ∃ v, e = .returned v ∧ SRow w' W.heap.size v L ∧ Below W.heap.size W w'
theorem named_any (vs vl : Value) (S : List (Bs × Int)) (l : List Bool) (w : World) (hS : MS w vs S) (hl : BoL w vl l) (hs7 : S.length ≤ 1000) :
  Calls Tryz.prog 32 #[vs, vl] w (NamO w (namedL S l S.length)) := by
 obtain ⟨sa, sc, rfl⟩ := hS.form
 obtain ⟨la, lc, rfl⟩ := hl.form
 have hls := hl.small
 have HS := Lib.hid hS
 have HL := Lib.hid hl
 clear hS hl
 go_enter Tryz.func32, Tryz.ntmps32
 go_wp2_with fail
 go_loopw [5, 6] (fun s5 s6 wr => ∃ i : Nat, s6 = .int .i64 i ∧ i ≤ S.length ∧ Hid (SRow wr w.heap.size s5 (namedL S l i)) ∧ Below w.heap.size w wr) (fun _ s6 _ => S.length - (intOf s6).toNat)
 case atStart => exact ⟨0, rfl, by omega, Lib.hid (SRow.nil _ _), Below.refl _ _⟩
 case round =>
  obtain ⟨i, rfl, hi, HR, hb⟩ := hrel
  obtain ⟨wr, hwr⟩ := Below.name hb
  subst hwr
  by_cases hlt : i < S.length
  ·have i1 : decide ((i : Int) < (S.length : Int)) = true := by simp; omega
   have i2 : (i : Int) < (S.length : Int) := by omega
   obtain ⟨g, off, e1, hg, c1, _⟩ := (HS.out.keep hb).at i hlt
   subst e1
   have HNL := Lib.hid (namedL_len S l i)
   have HST : Hid (namedL S l (i + 1) = namedL S l i ++ (if l.length ≤ i ∨ l.getD i false = true then [(S.getD i ([], 0)).1] else [])) := Lib.hid rfl
   generalize (S.getD i ([], 0)).1 = nm at *
   by_cases hle : l.length ≤ i
   ·have k1 : decide ((l.length : Int) ≤ (i : Int)) = true := by rw [decide_eq_true_eq]; omega
    have k2 : decide (l.length ≤ i) = true := by rw [decide_eq_true_eq]; omega
    have HN2 : Hid (namedL S l (i + 1) = namedL S l i ++ [nm]) := Lib.hid (by rw [HST.out, if_pos (.inl hle)])
    go_wp2_with (first
     | (at_builtin; refine wpList_appS rfl (.tmp 23) (.tmp 29) rfl w.heap.size _ (namedL S l i) rfl (HR.out.keep (Below.allocS (Below.refl _ _) _)) _ 0 1 1 [nm] rfl rfl (ssrc1 _ nm 9) (by have := HNL.out; omega) (by have := hb.size; simp; omega) ?_; intro v5 w5 hr5 hb5)
     | fail)
    exact ⟨⟨i + 1, by go_num, by omega, Lib.hid (by rw [HN2.out]; exact hr5), (Below.allocS hb _).trans hb5⟩, by simp [intOf]; omega⟩
   ·have k1 : decide ((l.length : Int) ≤ (i : Int)) = false := by rw [decide_eq_false_iff_not]; omega
    have k2 : decide (l.length ≤ i) = false := by rw [decide_eq_false_iff_not]; omega
    have k3 : (i : Int) < (l.length : Int) := by omega
    obtain ⟨g2, o2, e2, _, d1⟩ := (HL.out.keep hb).at i (by omega)
    subst e2
    cases hv : l.getD i false
    ·rw [hv] at d1
     have HN2 : Hid (namedL S l (i + 1) = namedL S l i) := Lib.hid (by rw [HST.out, if_neg (by rw [hv]; simp; omega), List.append_nil])
     clear hv
     go_wp2_with fail
     exact ⟨⟨i + 1, by go_num, by omega, Lib.hid (by rw [HN2.out]; exact HR.out), hb⟩, by simp [intOf]; omega⟩
    ·rw [hv] at d1
     have HN2 : Hid (namedL S l (i + 1) = namedL S l i ++ [nm]) := Lib.hid (by rw [HST.out, if_pos (.inr hv)])
     clear hv
     go_wp2_with (first
      | (at_builtin; refine wpList_appS rfl (.tmp 23) (.tmp 29) rfl w.heap.size _ (namedL S l i) rfl (HR.out.keep (Below.allocS (Below.refl _ _) _)) _ 0 1 1 [nm] rfl rfl (ssrc1 _ nm 9) (by have := HNL.out; omega) (by have := hb.size; simp; omega) ?_; intro v5 w5 hr5 hb5)
      | fail)
     exact ⟨⟨i + 1, by go_num, by omega, Lib.hid (by rw [HN2.out]; exact hr5), (Below.allocS hb _).trans hb5⟩, by simp [intOf]; omega⟩
  ·have i1 : decide ((i : Int) < (S.length : Int)) = false := by simp; omega
   have i3 : decide (i < S.length) = false := by rw [decide_eq_false_iff_not]; omega
   have e1 : i = S.length := by omega
   have HR2 : Hid (SRow wr w.heap.size u5 (namedL S l S.length)) := Lib.hid (by rw [← e1]; exact HR.out)
   clear e1
   go_wp2_with fail
   go_ret
   exact ⟨_, rfl, HR2.out, hb⟩
end Go.Proofs.YthkpmlfaddlieaaGreatDoor
namespace Go.Proofs.YthkpmlfaddlieaaGreatDoor
open Go.RowKit Go.WideMaps Go.Maps Pl
theorem idxOf_get : ∀ (r : List (Bs × Bs)) (x : Bs × Bs), x ∈ r → idxOf r x < r.length ∧ r.reverse[idxOf r x]? = some x
 | y :: r, x, h => by
  unfold idxOf
  by_cases e : x = y
  ·subst e
   rw [if_pos rfl]
   refine ⟨by simp, ?_⟩
   rw [List.reverse_cons, List.getElem?_append_right (by simp)]
   simp
  ·rw [if_neg e]
   have hx : x ∈ r := by
    rcases List.mem_cons.1 h with h | h
    ·exact absurd h e
    ·exact h
   obtain ⟨h1, h2⟩ := idxOf_get r x hx
   refine ⟨by simp; omega, ?_⟩
   rw [List.reverse_cons, List.getElem?_append_left (by simpa using h1)]
   exact h2
def placeG (L : List Sg) (who mark : Bs) : Nat := idxOf (L.map keyOfS).reverse (who, mark)
theorem placeG_get (L : List Sg) (who mark : Bs) (h : isIn L who mark = true) : placeG L who mark < L.length ∧ (L.getD (placeG L who mark) sg0').1 = who ∧ (L.getD (placeG L who mark) sg0').2.1 = mark := by
 have hm : (who, mark) ∈ (L.map keyOfS).reverse := by
  unfold isIn at h
  simpa using h
 obtain ⟨h1, h2⟩ := idxOf_get _ _ hm
 rw [List.reverse_reverse] at h2
 unfold placeG
 generalize idxOf (L.map keyOfS).reverse (who, mark) = i at *
 have hi : i < L.length := by simpa using h1
 rw [List.getElem?_map, List.getElem?_eq_getElem hi] at h2
 simp only [Option.map_some, Option.some.injEq, keyOfS, Prod.mk.injEq] at h2
 rw [List.getD_eq_getElem?_getD, List.getElem?_eq_getElem hi]
 exact ⟨hi, h2.1, h2.2⟩
theorem gv_set : ∀ (L : List Sg) (i : Nat) (b : Bool), i < L.length → (gv L).set (i * 3 + 2) (.bool b) = gv (L.set i ((L.getD i sg0').1, (L.getD i sg0').2.1, b))
 | x :: r, 0, b, _ => rfl
 | x :: r, i + 1, b, h => by
  have ih := gv_set r i b (by simpa using h)
  rw [show (i + 1) * 3 + 2 = i * 3 + 2 + 1 + 1 + 1 from by omega]
  simp only [gv, List.set_cons_succ, List.getD_cons_succ]
  rw [ih]
theorem take_set {α : Type} : ∀ (l : List α) (n k : Nat) (x : α), (l.set k x).take n = (l.take n).set k x
 | [], n, k, x => by simp
 | y :: l, 0, k, x => by simp
 | y :: l, n + 1, 0, x => by simp
 | y :: l, n + 1, k + 1, x => by simp [take_set l n k x]
theorem heap_setCell {w : World} {g o : Nat} {cur : Array Value} {e : TypeId} {fr : Nat × Nat} {v : Value} (h : w.heap[g]? = some (.cells cur e fr)) : (w.setCell ⟨g, o, none⟩ v).heap[g]? = some (.cells (cur.setIfInBounds o v) e fr) := by
 unfold World.setCell
 simp [Array.getElem?_modify, h]
theorem GRow.set {w : World} {base : Nat} {v : Value} {L : List Sg} (h : GRow w base v L) {i : Nat} (hi : i < L.length) (b : Bool) :
  ∃ g cap, v = .slice (some ⟨g, 0, none⟩) L.length cap ∧ base ≤ g ∧ g < w.heap.size ∧ w.cell? ⟨g, i * 3 + 2, none⟩ = some (.bool (L.getD i sg0').2.2) ∧ w.frozen? ⟨g, i * 3 + 2, none⟩ = false ∧
   GRow (w.setCell ⟨g, i * 3 + 2, none⟩ (.bool b)) base v (L.set i ((L.getD i sg0').1, (L.getD i sg0').2.1, b)) := by
 rcases h.cells with ⟨_, rfl⟩ | ⟨g, cap, hv, h1, h2, h3, h4, h5, h6⟩
 ·simp at hi
 ·have hc := (h5 i hi).2.2
  rw [Nat.zero_add] at hc
  refine ⟨g, cap, hv, h1, h2, hc, h6 _, ?_⟩
  rcases h.2 with ⟨h0, _⟩ | ⟨g', cap', cur, hv', q1, q2, q3, q4, q5, q6⟩
  ·rw [hv] at h0; cases h0
  ·rw [hv] at hv'
   injection hv' with e1 _ e3
   injection e1 with e1
   injection e1 with e1 _ _
   subst e1 e3
   refine ⟨by rw [gv_len], .inr ⟨g, cap, _, by rw [hv, List.length_set], q1, heap_setCell q2, by rw [List.length_set]; exact q3, q4, by simpa using q5, ?_⟩⟩
   rw [Array.toList_setIfInBounds, List.length_set, ← gv_set L i b hi, ← q6, take_set]
theorem GRow.setA {w : World} {base g n cap : Nat} {L : List Sg} (h : GRow w base (.slice (some ⟨g, 0, none⟩) n cap) L) {i : Nat} (hi : i < L.length) (b : Bool) :
  w.cell? ⟨g, i * 3 + 2, none⟩ = some (.bool (L.getD i sg0').2.2) ∧ w.frozen? ⟨g, i * 3 + 2, none⟩ = false ∧
   GRow (w.setCell ⟨g, i * 3 + 2, none⟩ (.bool b)) base (.slice (some ⟨g, 0, none⟩) n cap) (L.set i ((L.getD i sg0').1, (L.getD i sg0').2.1, b)) := by
 obtain ⟨g', cap', hv, _, _, h3, h4, h5⟩ := h.set hi b
 have hg : g = g' := by injection hv with e _ _; injection e with e; injection e
 subst hg
 exact ⟨h3, h4, h5⟩
def signL (L : List Sg) (who mark : Bs) (honest : Bool) : List Sg × Int :=
 if who = [] ∨ 6 < who.length then (L, 1) else if mark.length ≠ 32 then (L, 3)
 else if isIn L who mark then (L.set (placeG L who mark) (who, mark, (L.getD (placeG L who mark) sg0').2.2 && honest), 0)
 else if 1024 ≤ L.length then (L, 2) else (L ++ [(who, mark, honest)], 0)
theorem keys_set (L : List Sg) (who mark : Bs) (b : Bool) (h : isIn L who mark = true) : (L.set (placeG L who mark) (who, mark, b)).map keyOfS = L.map keyOfS := by
 obtain ⟨h1, h2, h3⟩ := placeG_get L who mark h
 rw [List.map_set]
 have : keyOfS (who, mark, b) = (L.map keyOfS)[placeG L who mark]'(by simpa using h1) := by
  rw [List.getD_eq_getElem?_getD, List.getElem?_eq_getElem h1] at h2 h3
  simp only [Option.getD_some] at h2 h3
  simp only [List.getElem_map, keyOfS]
  rw [h2, h3]
 rw [this, List.set_getElem_self]
end Go.Proofs.YthkpmlfaddlieaaGreatDoor
namespace Go.Proofs.YthkpmlfaddlieaaGreatDoor
open Go.RowKit Pl
namespace Pl
def mayC (d : Bs) (l : List Bs) : Bool := decide (d.length = 32) && decide (l.length ≤ 7) && okS [] l
def lastS (l : List Bs) : Nat → Bs
 | 0 => []
 | i + 1 => l.getD i []
end Pl
def CV (w : World) (v : Value) (d : Bs) (l : List Bs) : Prop := ∃ u, v = .agg #[.string ⟨d.toArray⟩, u] ∧ SS w u l
theorem cmay_any (v : Value) (d : Bs) (l : List Bs) (w : World) (hv : CV w v d l) :
  Calls Tryz.prog 76 #[v] w fun e w' => e = .returned (.bool (mayC d l)) ∧ Below w.heap.size w w' := by
 generalize hr : mayC d l = r
 have HR := Lib.hid hr
 clear hr
 obtain ⟨u, rfl, hu⟩ := hv
 obtain ⟨a, c, rfl⟩ := hu.form
 have hm := hu.small
 have HV := Lib.hid hu
 clear hu
 by_cases hd : d.length = 32
 ·have hd1 : ((d.length : Int) != 32) = false := by simp; omega
  by_cases h7 : 7 < l.length
  ·have hd2 : decide ((7 : Int) < (l.length : Int)) = true := by simp; omega
   have HD := Lib.hid hd
   clear hd
   go_enter Tryz.func76, Tryz.ntmps76
   go_wp2_with fail
   all_goals (go_ret; refine ⟨?_, Below.allocS (Below.refl _ _) _⟩; rw [← HR.out]; have : ¬ l.length ≤ 7 := (by omega); simp [mayC, this])
  ·have hd2 : decide ((7 : Int) < (l.length : Int)) = false := by simp; omega
   have HR2 : Hid (okS [] l = r) := Lib.hid (by rw [← HR.out]; have : l.length ≤ 7 := (by omega); simp [mayC, this, hd])
   have HD := Lib.hid hd
   clear hd HR
   go_enter Tryz.func76, Tryz.ntmps76
   go_wp2_with fail
   go_loopw [3, 19] (fun s3 s19 wr => ∃ i : Nat, i ≤ l.length ∧ s19 = .int .i64 i ∧ s3 = .string ⟨List.toArray (lastS l i)⟩ ∧ Hid (okS (lastS l i) (l.drop i) = r) ∧ Below w.heap.size w wr) (fun _ s19 _ => l.length - (intOf s19).toNat)
   case atStart => exact ⟨0, by omega, rfl, rfl, HR2, Below.allocS (Below.refl _ _) _⟩
   case round =>
    obtain ⟨i, hi, rfl, rfl, HI, hb⟩ := hrel
    obtain ⟨wq, h⟩ := Below.nm hb
    subst h
    by_cases hlt : i < l.length
    ·obtain ⟨g, off, rfl, c1⟩ := (HV.out.keep hb).at i hlt
     have hi2 := HI.out
     rw [dropS l i hlt] at hi2
     have hnx : lastS l (i + 1) = l.getD i [] := rfl
     generalize hx : l.getD i [] = x at *
     unfold okS at hi2
     generalize lastS l i = z at *
     cases hle : leS x z
     ·by_cases h6 : (6 : Int) < (x.length : Int)
      ·have HI2 : Hid (false = r) := Lib.hid (by rw [← hi2, hle]; simp [h6])
       clear HI hi2
       go_wp2_with fail
       all_goals (go_ret; refine ⟨?_, hb⟩; rw [← HI2.out]; rfl)
      ·have HI2 : Hid (okS x (l.drop (i + 1)) = r) := Lib.hid (by rw [← hi2, hle]; simp [h6])
       clear HI hi2
       go_wp2_with fail
       exact ⟨⟨i + 1, by omega, by go_num, by rw [hnx], by rw [hnx]; exact HI2, hb⟩, by simp [intOf]; omega⟩
     ·have HI2 : Hid (false = r) := Lib.hid (by rw [← hi2, hle]; simp)
      clear HI hi2
      go_wp2_with fail
      all_goals (go_ret; refine ⟨?_, hb⟩; rw [← HI2.out]; rfl)
    ·obtain rfl : i = l.length := by omega
     go_wp2_with fail
     all_goals (go_ret; refine ⟨?_, hb⟩; rw [← HI.out]; simp [okS])
 ·have hd1 : ((d.length : Int) != 32) = true := by simp; omega
  have HD := Lib.hid hd
  clear hd
  go_enter Tryz.func76, Tryz.ntmps76
  go_wp2_with fail
  all_goals (go_ret; refine ⟨?_, Below.allocS (Below.refl _ _) _⟩; rw [← HR.out]; simp [mayC, HD.out])
end Go.Proofs.YthkpmlfaddlieaaGreatDoor
namespace Go.Proofs.YthkpmlfaddlieaaGreatDoor
open Go.RowKit Pl
namespace Pl
def encC (d : Bs) (l : List Bs) : Bs := d ++ encS l
def encCR (d : Bs) (l : List Bs) : Bs × Int := if mayC d l then (encC d l, 0) else ([], 3)
theorem okS_len : ∀ (l : List Bs) (z : Bs), okS z l = true → ∀ i, i < l.length → (l.getD i []).length ≤ 6
 | n :: r, z, h, i, hi => by
  simp only [okS, Bool.and_eq_true, Bool.not_eq_true', Bool.or_eq_false_iff, decide_eq_false_iff_not] at h
  obtain ⟨⟨h1, h2⟩, h5⟩ := h
  match i with
  | 0 => simp; omega
  | j + 1 => exact okS_len r n h5 j (by simpa using hi)
theorem mayC_parts {d : Bs} {l : List Bs} (h : mayC d l = true) : d.length = 32 ∧ l.length ≤ 7 ∧ okS [] l = true ∧ ∀ i, i < l.length → (l.getD i []).length ≤ 6 := by
 simp only [mayC, Bool.and_eq_true, decide_eq_true_eq] at h
 exact ⟨h.1.1, h.1.2, h.2, okS_len l [] h.2⟩
theorem encS_len (l : List Bs) (h7 : l.length ≤ 7) (h : ∀ i, i < l.length → (l.getD i []).length ≤ 6) : (encS l).length ≤ 200 := by
 have h1 := listB_len l 6 h l.length (Nat.le_refl _)
 rw [List.take_length] at h1
 have hn9 := num_len l.length
 simp only [encS, List.length_append]
 omega
end Pl
theorem cencode_any (v : Value) (d : Bs) (l : List Bs) (w : World) (hv : CV w v d l) :
  Calls Tryz.prog 122 #[v] w fun e w' => e = .returned (.tuple #[.string ⟨List.toArray ((encCR d l).1)⟩, .int .i64 ((encCR d l).2)]) ∧ Below w.heap.size w w' := by
 generalize hr : encCR d l = r
 have HR := Lib.hid hr
 clear hr
 obtain ⟨u, rfl, hu⟩ := hv
 obtain ⟨a, c, rfl⟩ := hu.form
 have hb0 : Below w.heap.size w (w.alloc (.cells #[.string ⟨d.toArray⟩, .slice a l.length c] 37)) := Below.allocS (Below.refl _ _) _
 have B0 : Blk (w.alloc (.cells #[.string ⟨d.toArray⟩, .slice a l.length c] 37)) w.heap.size #[.string ⟨d.toArray⟩, .slice a l.length c] := Blk.new _ _ _
 have V0 := hu.keep hb0
 have HV := Lib.hid V0
 have hmay := cmay_any _ d l _ ⟨_, rfl, V0⟩
 clear hu V0
 cases hc : mayC d l
 ·rw [hc] at hmay
  have HC := Lib.hid hmay
  have HR2 : Hid (([], 3) = r) := Lib.hid (by rw [← HR.out]; simp [encCR, hc])
  clear hmay hc HR
  go_enter Tryz.func122, Tryz.ntmps122
  go_wp2_with fail
  refine HC.out.mono ?_
  rintro e w1 ⟨rfl, hb⟩
  go_wp2_with fail
  all_goals (go_ret2; refine ⟨?_, hb0.trans (hb.mono hb0.size)⟩; rw [← HR2.out]; rfl)
 ·rw [hc] at hmay
  have HC := Lib.hid hmay
  have HR2 : Hid ((encC d l, 0) = r) := Lib.hid (by rw [← HR.out]; simp [encCR, hc])
  obtain ⟨p1, p2, _, p3⟩ := mayC_parts hc
  have HP := Lib.hid p3
  have hes := encS_len l p2 p3
  have hcat : ¬ 9223372036854775807 < d.length + (encS l).length := by omega
  have HP1 := Lib.hid p1
  clear hmay hc HR p3 p1
  go_enter Tryz.func122, Tryz.ntmps122
  go_wp2_with fail
  refine HC.out.mono ?_
  rintro e w1 ⟨rfl, hb⟩
  have B1 := B0.keep hb
  have V1 := HV.out.keep hb
  go_wp2_with fail
  refine wpH_start (by kernel_rfl) (fun hS => ?_)
  (refine hP 0 ?_ ⟨some 7, .fieldAddr 37 (.tmp 1) 0, 0, "", #[], none⟩ hS ?_ ?_; rotate_left; focus (intro w; go_simp; try with_reducible rfl))
  try simp only [pna, pnb, pnc, pnd, pne]
  refine wpH_load 1 (.string ⟨d.toArray⟩) (oi := ⟨some 8,.load 9 (.tmp 7),9,"cert.go:97",#[⟨0,.data⟩],none⟩) rfl (by kernel_rfl) (by kernel_rfl) (by kernel_rfl) (by rfl) hS (fun _ _ _ h => h) (fun w hb => (by have c := (B1.keep hb).cell 0; go_simp; try rfl)) ?_
  try simp only [pna, pnb, pnc, pnd, pne]
  (refine hP 2 ?_ ⟨some 9, .fieldAddr 37 (.tmp 1) 1, 0, "", #[], none⟩ hS ?_ ?_; rotate_left; focus (intro w; go_simp; try with_reducible rfl))
  try simp only [pna, pnb, pnc, pnd, pne]
  refine wpH_load 3 (.slice a l.length c) (oi := ⟨some 10,.load 24 (.tmp 9),24,"cert.go:97",#[⟨2,.data⟩],none⟩) rfl (by kernel_rfl) (by kernel_rfl) (by kernel_rfl) (by rfl) hS (fun _ _ _ h => h) (fun w hb => (by have c := (B1.keep hb).cell 1; go_simp; try rfl)) ?_
  try simp only [pna, pnb, pnc, pnd, pne]
  refine wpH_call 4 (oi := ⟨some 11,.call { callee := .value (.func 155), args := #[.tmp 10], argTypes := #[24] },9,"cert.go:97",#[⟨3,.data⟩],none⟩) rfl (by kernel_rfl) (by rfl) (clist_any _ l _ (by omega) (fun i hi => by have := HP.out i hi; omega) (V1.keep hS)) ?_ ?_
  ·(go_simp; try rfl)
  rintro e w' ⟨rfl, hbx⟩
  refine ⟨_, rfl, hS.trans (hbx.mono hS.size), ?_⟩
  replace hS := hS.trans (hbx.mono hS.size)
  try simp only [pna, pnb, pnc, pnd, pne]
  (refine hP 5 ?_ ⟨some 12, .binOp .add 9 (.tmp 8) (.tmp 11) 9, 9, "", #[], none⟩ hS ?_ ?_; rotate_left; focus (intro w; go_simp; try with_reducible rfl))
  try simp only [pna, pnb, pnc, pnd, pne]
  (refine hP 6 ?_ ⟨some 2, .assign (.tmp 12), 9, "", #[], none⟩ hS ?_ ?_; rotate_left; focus (intro w; go_simp; try with_reducible rfl))
  try simp only [pna, pnb, pnc, pnd, pne]
  (refine hP 7 ?_ ⟨some 3, .assign (.const (.int .i64 0)), 34, "", #[], none⟩ hS ?_ ?_; rotate_left; focus (intro w; go_simp; try with_reducible rfl))
  try simp only [pna, pnb, pnc, pnd, pne]
  refine wpAnyH_done (by kernel_rfl) ?_ _
  go_wp2_with fail
  all_goals (go_ret2; refine ⟨?_, (hb0.trans (hb.mono hb0.size)).trans (hS.mono (hb0.trans (hb.mono hb0.size)).size)⟩; rw [← HR2.out]; rfl)
theorem samecert_any (u v : Value) (d e : Bs) (l m : List Bs) (w : World) (hu : CV w u d l) (hv : CV w v e m) :
  Calls Tryz.prog 56 #[u, v] w fun x w' => x = .returned (.bool (d == e && sameL l m)) ∧ Below w.heap.size w w' := by
 obtain ⟨u, rfl, hu⟩ := hu
 obtain ⟨v, rfl, hv⟩ := hv
 obtain ⟨a, c, rfl⟩ := hu.form
 obtain ⟨a2, c2, rfl⟩ := hv.form
 have hb0 : Below w.heap.size w ((w.alloc (.cells #[.string ⟨d.toArray⟩, .slice a l.length c] 37)).alloc (.cells #[.string ⟨e.toArray⟩, .slice a2 m.length c2] 37)) := Below.allocS (Below.allocS (Below.refl _ _) _) _
 have hU := hu.keep hb0
 have hV := hv.keep hb0
 generalize hde : (d == e) = de
 have hde2 : decide (d = e) = de := by rw [← hde]; by_cases h : d = e <;> simp [h]
 cases de
 ·go_enter Tryz.func56, Tryz.ntmps56
  go_wp2_with fail
  all_goals (go_ret; exact ⟨rfl, hb0⟩)
 ·clear hu hv
  have hs := sametexts_any _ _ l m _ hU hV
  generalize sameL l m = q at *
  have HS := Lib.hid hs
  clear hs
  cases q
  all_goals
   go_enter Tryz.func56, Tryz.ntmps56
   go_wp2_with fail
   refine HS.out.mono ?_
   rintro x w1 ⟨rfl, n, rfl⟩
   go_wp2_with fail
   all_goals (go_ret; exact ⟨rfl, below_drewN hb0 _⟩)
end Go.Proofs.YthkpmlfaddlieaaGreatDoor
namespace Go.Proofs.YthkpmlfaddlieaaGreatDoor
open Go.RowKit Pl
namespace Pl
def tagC (tag : Int) : Bool := decide (tag = 5) || decide (tag = 6)
def markP (tag : Int) (s : Bs) : Bs × Int := if tagC tag = false then ([], 1) else if s.length ≠ 32 then ([], 3) else (tagP tag.toNat s, 0)
def firstC (tag : Int) (l : List (Bs × Int)) (fine : Bool) : Int := if tagC tag = false then 1 else if chkM l = false then 50 else if fine then 0 else 3
def chkA (l : List (Bs × Int)) (ns : List Bs) : Bool := ns.all fun n => decide (ofM l [n] ≠ 0)
def chkB (L : List Sg) (m : Bs) (ns : List Bs) : Bool := ns.all fun n => isIn L n m
def goodIn (l : List (Bs × Int)) (m : Bs) (ns : List Bs) (L : List Sg) : Int :=
 if chkA l ns = false then 5 else if chkB L m ns = false then 70 else if ofM l ns < quoM l then 71 else 0
def goodC (tag : Int) (l : List (Bs × Int)) (d : Bs) (ns : List Bs) (L : List Sg) : Int :=
 if firstC tag l (mayC d ns) ≠ 0 then firstC tag l (mayC d ns) else goodIn l (tagP tag.toNat d) ns L
theorem goodC_in {tag : Int} {l : List (Bs × Int)} {d : Bs} {ns : List Bs} {L : List Sg} (h : firstC tag l (mayC d ns) = 0) : goodC tag l d ns L = goodIn l (tagP tag.toNat d) ns L := by
 unfold goodC
 rw [if_neg (by simpa using h)]
theorem goodC_out {tag : Int} {l : List (Bs × Int)} {d : Bs} {ns : List Bs} {L : List Sg} (h : firstC tag l (mayC d ns) ≠ 0) : goodC tag l d ns L = firstC tag l (mayC d ns) := by
 unfold goodC
 rw [if_pos h]
end Pl
theorem cmark_any (tag : Int) (s : Bs) (hs : s.length ≤ 1000000) (w : World) (hk : KT w) :
  Calls Tryz.prog 14 #[.int .i64 tag, .string ⟨s.toArray⟩] w fun e w' => e = .returned (.tuple #[.string ⟨List.toArray ((markP tag s).1)⟩, .int .i64 ((markP tag s).2)]) ∧ Below w.heap.size w w' := by
 cases ht : tagC tag
 ·have h5 : (tag != 5) = true := by simp [tagC] at ht; simpa using ht.1
  have h6 : (tag != 6) = true := by simp [tagC] at ht; simpa using ht.2
  rw [show markP tag s = ([], 1) from by simp [markP, ht]]
  clear ht
  go_enter Tryz.func14, Tryz.ntmps14
  go_wp2_with fail
  all_goals (go_ret2; exact ⟨rfl, Below.refl _ _⟩)
 ·by_cases hl : s.length = 32
  ·rw [show markP tag s = (tagP tag.toNat s, 0) from by simp [markP, ht, hl]]
   have hl1 : ((s.length : Int) != 32) = false := by simp; omega
   obtain ⟨t, rfl, ht1⟩ : ∃ t : Nat, tag = t ∧ (t = 5 ∨ t = 6) := by
    simp [tagC] at ht
    rcases ht with rfl | rfl
    ·exact ⟨5, rfl, .inl rfl⟩
    ·exact ⟨6, rfl, .inr rfl⟩
   rw [Int.toNat_natCast]
   have HL := Lib.hid hl
   have hd := digsum_ok t (by omega) (by omega) s (by omega) w hk
   clear ht hl
   rcases ht1 with rfl | rfl
   all_goals
    go_enter Tryz.func14, Tryz.ntmps14
    go_wp2_with fail
    refine hd.mono ?_
    rintro e w1 ⟨rfl, hb⟩
    go_wp2_with fail
    all_goals (go_ret2; exact ⟨rfl, hb⟩)
  ·rw [show markP tag s = ([], 3) from by simp [markP, ht, hl]]
   have hl1 : ((s.length : Int) != 32) = true := by simp; omega
   simp [tagC] at ht
   rcases ht with rfl | rfl
   all_goals
    go_enter Tryz.func14, Tryz.ntmps14
    go_wp2_with fail
    all_goals (go_ret2; exact ⟨rfl, Below.refl _ _⟩)
theorem cfirst_any (tag : Int) (v : Value) (l : List (Bs × Int)) (fine : Bool) (w : World) (hv : MS w v l) :
  Calls Tryz.prog 75 #[.int .i64 tag, v, .bool fine] w fun e w' => e = .returned (.int .i64 (firstC tag l fine)) ∧ Below w.heap.size w w' := by
 generalize hr : firstC tag l fine = r
 have HR := Lib.hid hr
 clear hr
 obtain ⟨a, c, rfl⟩ := hv.form
 have hchk := mcheck_any _ l w hv
 clear hv
 cases ht : tagC tag
 ·have h5 : (tag != 5) = true := by simp [tagC] at ht; simpa using ht.1
  have h6 : (tag != 6) = true := by simp [tagC] at ht; simpa using ht.2
  have HZ : Hid (1 = r) := Lib.hid (by rw [← HR.out]; simp [firstC, ht])
  clear ht HR
  go_enter Tryz.func75, Tryz.ntmps75
  go_wp2_with fail
  all_goals (go_ret; exact ⟨by rw [← HZ.out]; rfl, Below.refl _ _⟩)
 ·cases hc : chkM l
  ·have HZ : Hid (50 = r) := Lib.hid (by rw [← HR.out]; simp [firstC, ht, hc])
   rw [hc] at hchk
   have HC := Lib.hid hchk
   clear hchk HR hc
   simp [tagC] at ht
   rcases ht with rfl | rfl
   all_goals
    go_enter Tryz.func75, Tryz.ntmps75
    go_wp2_with fail
    refine HC.out.mono ?_
    rintro e w1 ⟨rfl, hb⟩
    unfold setI
    go_wp2_with fail
    all_goals (go_ret; exact ⟨by rw [← HZ.out]; rfl, hb⟩)
  ·have HZ : Hid ((if fine then 0 else 3) = r) := Lib.hid (by rw [← HR.out]; simp [firstC, ht, hc])
   rw [hc] at hchk
   have HC := Lib.hid hchk
   clear hchk HR hc
   simp [tagC] at ht
   cases fine
   all_goals
    rcases ht with rfl | rfl
    all_goals
     go_enter Tryz.func75, Tryz.ntmps75
     go_wp2_with fail
     refine HC.out.mono ?_
     rintro e w1 ⟨rfl, hb⟩
     unfold setI
     go_wp2_with fail
     all_goals (go_ret; exact ⟨by rw [← HZ.out]; rfl, hb⟩)
theorem chkA_drop (l : List (Bs × Int)) (ns : List Bs) (i : Nat) (hi : i < ns.length) : chkA l (ns.drop i) = (decide (ofM l [ns.getD i []] ≠ 0) && chkA l (ns.drop (i + 1))) := by
 rw [dropS ns i hi]
 rfl
theorem chkB_drop (L : List Sg) (m : Bs) (ns : List Bs) (i : Nat) (hi : i < ns.length) : chkB L m (ns.drop i) = (isIn L (ns.getD i []) m && chkB L m (ns.drop (i + 1))) := by
 rw [dropS ns i hi]
 rfl
theorem ccheck_any (tag : Int) (v cv : Value) (l : List (Bs × Int)) (d : Bs) (ns : List Bs) (base p : Nat) (L : List Sg) (w : World) (hv : MS w v l) (hc : CV w cv d ns) (hT : Tab w base p L) (hk : KT w) :
  Calls Tryz.prog 40 #[.int .i64 tag, v, cv, .pointer (some ⟨p, 0, none⟩)] w fun e w' => e = .returned (.int .i64 (goodC tag l d ns L)) ∧ Below w.heap.size w w' := by
 generalize hr : goodC tag l d ns L = r
 have HR := Lib.hid hr
 clear hr
 obtain ⟨a, c, rfl⟩ := hv.form
 obtain ⟨u, rfl, hu⟩ := hc
 obtain ⟨a2, c2, rfl⟩ := hu.form
 have hb0 : Below w.heap.size w (w.alloc (.cells #[.string ⟨d.toArray⟩, .slice a2 ns.length c2] 37)) := Below.allocS (Below.refl _ _) _
 have B0 : Blk (w.alloc (.cells #[.string ⟨d.toArray⟩, .slice a2 ns.length c2] 37)) w.heap.size #[.string ⟨d.toArray⟩, .slice a2 ns.length c2] := Blk.new _ _ _
 have HV := Lib.hid hv
 have HU := Lib.hid hu
 have HT := Lib.hid hT
 have U0 := hu.keep hb0
 have hmay := cmay_any _ d ns _ ⟨_, rfl, U0⟩
 have hlm := hv.small
 have hln := hu.small
 clear hv hu hT
 generalize hfin : mayC d ns = fine at *
 have HF := Lib.hid hfin
 clear hfin
 go_enter Tryz.func40, Tryz.ntmps40
 go_wp2_with fail
 refine hmay.mono ?_
 rintro e w1 ⟨rfl, hb⟩
 have hb1 := hb0.trans (hb.mono hb0.size)
 have B1 := B0.keep hb
 clear hmay hb hb0 B0 U0
 go_wp2_with fail
 refine (cfirst_any tag _ l fine _ (HV.out.keep hb1)).mono ?_
 rintro e w2 ⟨rfl, hb⟩
 have hb2 := hb1.trans (hb.mono hb1.size)
 have B2 := B1.keep hb
 clear hb hb1 B1
 by_cases he : firstC tag l fine = 0
 ·have HR2 : Hid (goodIn l (tagP tag.toNat d) ns L = r) := Lib.hid (by rw [← HR.out, goodC_in (by rw [HF.out]; exact he)])
  have hfine : fine = true ∧ tagC tag = true ∧ chkM l = true := by
   unfold firstC at he
   cases hq : tagC tag
   ·simp [hq] at he
   ·cases hq2 : chkM l
    ·simp [hq, hq2] at he
    ·cases fine
     ·simp [hq, hq2] at he
     ·exact ⟨rfl, rfl, rfl⟩
  obtain ⟨rfl, htg, hcm⟩ := hfine
  obtain ⟨p1, p2, _, p3⟩ := mayC_parts HF.out
  have HD := Lib.hid p1
  have HP := Lib.hid p3
  have hmk : markP tag d = (tagP tag.toNat d, 0) := by simp [markP, htg, p1]
  have HMK := Lib.hid hmk
  rw [he]
  clear he HR p1 p3 hmk htg
  obtain ⟨b1, b2, b3⟩ := id B2
  go_wp2_with fail
  go_loopw [28] (fun s28 wr => ∃ i : Nat, i ≤ ns.length ∧ s28 = .int .i64 i ∧ Hid (chkA l ns = chkA l (ns.drop i)) ∧ Blk wr w.heap.size #[.string ⟨d.toArray⟩, .slice a2 ns.length c2] ∧ Below w.heap.size w wr) (fun s28 _ => ns.length - (intOf s28).toNat)
  case atStart => exact ⟨0, by omega, rfl, Lib.hid rfl, B2, hb2⟩
  case round =>
   clear hb2 B2 b1 b2 b3
   obtain ⟨i, hi, rfl, HA, B2, hb2⟩ := hrel
   obtain ⟨wq, h⟩ := Below.nm hb2
   subst h
   by_cases hlt : i < ns.length
   ·obtain ⟨g, off, rfl, c1⟩ := (HU.out.keep hb2).at i hlt
    have hx6 := HP.out i hlt
    have hA := HA.out
    rw [chkA_drop l ns i hlt] at hA
    generalize hx : ns.getD i [] = x at *
    have HX := Lib.hid hx
    have hS1 : SS (wq.alloc (.cells #[.string ⟨x.toArray⟩] 9)) (.slice (some ⟨wq.heap.size, 0, none⟩) 1 1) [x] := SS.of (l := [x]) (by simp) (by unfold maxLen; omega) (by simp) (ssrc1 _ _ _)
    have hb3 := Below.allocS hb2 (.cells #[.string ⟨x.toArray⟩] 9)
    have B3 := B2.alloc (.cells #[.string ⟨x.toArray⟩] 9)
    clear hx HA
    have HAA := Lib.hid hA
    clear hA
    go_wp2_with fail
    refine (mof_any _ _ l [x] (by simp) (fun j hj => by
     have : j = 0 := (by simpa using hj)
     subst this
     unfold maxLen; simp; omega) _ (HV.out.keep hb3) hS1).mono ?_
    rintro e w4 ⟨rfl, hb⟩
    have hb4 := hb3.trans (hb.mono hb3.size)
    have B4 := B3.keep hb
    by_cases ho : ofM l [x] = 0
    ·have HZ : Hid (5 = r) := Lib.hid (by rw [← HR2.out, goodIn, HAA.out]; simp [ho])
     rw [ho]
     clear HAA HR2 ho
     go_wp2_with fail
     all_goals (go_ret; exact ⟨by rw [← HZ.out]; rfl, hb4⟩)
    ·have HB : Hid (chkA l ns = chkA l (ns.drop (i + 1))) := Lib.hid (by rw [HAA.out]; simp [ho])
     have ho2 : (ofM l [x] == 0) = false := by simpa using ho
     clear HAA
     generalize ofM l [x] = z at *
     go_wp2_with fail
     exact ⟨⟨i + 1, by omega, by go_num, HB, B4, hb4⟩, by simp [intOf]; omega⟩
   ·obtain rfl : i = ns.length := by omega
    have hA : chkA l ns = true := by rw [HA.out]; simp [chkA]
    have HR3 : Hid ((if chkB L (tagP tag.toNat d) ns = false then 70 else if ofM l ns < quoM l then 71 else 0) = r) := Lib.hid (by rw [← HR2.out, goodIn, hA]; simp)
    clear HR2 HA hA
    obtain ⟨b1, b2, b3⟩ := id B2
    go_wp2_with fail
    refine (cmark_any tag d (by have := HD.out; omega) _ (hk.keep hb2)).mono ?_
    rintro e w4 ⟨rfl, hb⟩
    rw [HMK.out]
    have hb4 := hb2.trans (hb.mono hb2.size)
    have B4 := B2.keep hb
    clear hb hb2 B2 b1 b2 b3
    have hml : (tagP tag.toNat d).length = 32 := tagP_len _ _
    generalize tagP tag.toNat d = m at *
    have HML := Lib.hid hml
    clear hml
    obtain ⟨b1, b2, b3⟩ := id B4
    go_wp2_with fail
    go_loopw [48] (fun s48 wr => ∃ i : Nat, i ≤ ns.length ∧ s48 = .int .i64 i ∧ Hid (chkB L m ns = chkB L m (ns.drop i)) ∧ Blk wr w.heap.size #[.string ⟨d.toArray⟩, .slice a2 ns.length c2] ∧ Below w.heap.size w wr) (fun s48 _ => ns.length - (intOf s48).toNat)
    case atStart => exact ⟨0, by omega, rfl, Lib.hid rfl, B4, hb4⟩
    case round =>
     clear hb4 B4 b1 b2 b3
     obtain ⟨i, hi, rfl, HA, B2, hb2⟩ := hrel
     obtain ⟨wq, h⟩ := Below.nm hb2
     subst h
     by_cases hlt : i < ns.length
     ·obtain ⟨g, off, rfl, c1⟩ := (HU.out.keep hb2).at i hlt
      have hx6 := HP.out i hlt
      have hA := HA.out
      rw [chkB_drop L m ns i hlt] at hA
      generalize hx : ns.getD i [] = x at *
      have HX := Lib.hid hx
      clear hx HA
      have HAA := Lib.hid hA
      clear hA
      go_wp2_with fail
      refine (osigned_any base p L x m (by omega) (by have := HML.out; omega) _ (HT.out.keep hb2)).mono ?_
      rintro e w4 ⟨rfl, hb⟩
      have hb4 := hb2.trans (hb.mono hb2.size)
      have B4 := B2.keep hb
      cases hq : isIn L x m
      ·have HZ : Hid (70 = r) := Lib.hid (by rw [← HR3.out, HAA.out]; simp [hq])
       clear HAA HR3 hq
       go_wp2_with fail
       all_goals (go_ret; exact ⟨by rw [← HZ.out]; rfl, hb4⟩)
      ·have HB : Hid (chkB L m ns = chkB L m (ns.drop (i + 1))) := Lib.hid (by rw [HAA.out]; simp [hq])
       clear HAA hq
       go_wp2_with fail
       exact ⟨⟨i + 1, by omega, by go_num, HB, B4, hb4⟩, by simp [intOf]; omega⟩
     ·obtain rfl : i = ns.length := by omega
      have hA : chkB L m ns = true := by rw [HA.out]; simp [chkB]
      have HR4 : Hid ((if ofM l ns < quoM l then 71 else 0) = r) := Lib.hid (by rw [← HR3.out, hA]; simp)
      clear HR3 HA hA
      obtain ⟨b1, b2, b3⟩ := id B2
      go_wp2_with fail
      refine (mof_any _ _ l ns (by omega) (fun j hj => by have := HP.out j hj; unfold maxLen; omega) _ (HV.out.keep hb2) (HU.out.keep hb2)).mono ?_
      rintro e w4 ⟨rfl, hb⟩
      have hb4 := hb2.trans (hb.mono hb2.size)
      clear hb hb2 B2 b1 b2 b3
      go_wp2_with fail
      refine (mquorum_any _ l _ (HV.out.keep hb4)).mono ?_
      rintro e w5 ⟨rfl, hb⟩
      have hb5 := hb4.trans (hb.mono hb4.size)
      clear hb hb4
      generalize ofM l ns = x at *
      generalize quoM l = y at *
      by_cases hxy : x < y
      ·have HZ : Hid (71 = r) := Lib.hid (by rw [← HR4.out, if_pos hxy])
       have hd : decide (x < y) = true := by simpa using hxy
       go_wp2_with fail
       all_goals (go_ret; exact ⟨by rw [← HZ.out]; rfl, hb5⟩)
      ·have HZ : Hid (0 = r) := Lib.hid (by rw [← HR4.out, if_neg hxy])
       have hd : decide (x < y) = false := by simpa using hxy
       go_wp2_with fail
       all_goals (go_ret; exact ⟨by rw [← HZ.out]; rfl, hb5⟩)
 ·have HR2 : Hid (firstC tag l fine = r) := Lib.hid (by rw [← HR.out, goodC_out (by rw [HF.out]; exact he), HF.out])
  have he1 : (firstC tag l fine != 0) = true := by simpa using he
  generalize firstC tag l fine = e0 at *
  clear HR HF
  go_wp2_with fail
  all_goals (go_ret; exact ⟨by rw [← HR2.out]; rfl, hb2⟩)
end Go.Proofs.YthkpmlfaddlieaaGreatDoor
namespace Go.Proofs.YthkpmlfaddlieaaGreatDoor
open Go.RowKit Pl
namespace Pl
theorem first_zero {tag : Int} {l : List (Bs × Int)} {fine : Bool} (he : firstC tag l fine = 0) : fine = true ∧ tagC tag = true ∧ chkM l = true := by
 unfold firstC at he
 cases hq : tagC tag
 ·simp [hq] at he
 ·cases hq2 : chkM l
  ·simp [hq, hq2] at he
  ·cases fine
   ·simp [hq, hq2] at he
   ·exact ⟨rfl, rfl, rfl⟩
end Pl
end Go.Proofs.YthkpmlfaddlieaaGreatDoor
