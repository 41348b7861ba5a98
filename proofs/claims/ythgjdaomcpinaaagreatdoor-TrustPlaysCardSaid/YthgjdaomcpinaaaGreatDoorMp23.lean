/- TrustD, JNext, OwnG. -/
import Derived.Lib.OwnKind
import Derived.Maps.AppendAt
import Derived.Lib.OwnBridge
import Derived.Test.YthgjdaomcpinaaaGreatDoorMp22
set_option linter.unnecessarySimpa false
set_option linter.unusedSimpArgs false
set_option linter.unusedVariables false
set_option maxRecDepth 100000
set_option maxHeartbeats 32000000
namespace Go.Proofs.YthgjdaomcpinaaaGreatDoor
open Go.RowKit Go.Shelf Pl
theorem row_trust : RowT Tryz.prog 27 13 := RowT.mk' Tryz.underlying27 rfl (by kernel_rfl)
section
variable {P : Program} {T : TypeId} {n : Nat} {op : Oper} {a : Act} {w : World} {K : Act → World → Prop} {Q : Exit → Act → World → Prop}
theorem wp_rowStore (hT : RowT P T n) (x y : Operand) (ho : op.op = .store T x y) {b : Nat} (hx : a.eval x = .pointer (some ⟨b, 0, none⟩)) {vs : List Value} (hy : a.eval y = .agg vs.toArray) (hl : vs.length = n) (h1 : ∀ v ∈ vs, v.oneCell' = true)
  {us : List Value} (hlu : us.length = n) (hB : Blk w b us.toArray)
  (h : ∀ w', Blk w' b vs.toArray → Mod [b] w w' → K (a.put op.dst undef) w') : op.wp P a w K Q := by
 obtain ⟨_, h3⟩ := hT
 have ht : w.there b 0 vs.length := fun j hj => by
  rw [Nat.zero_add, hB.cell, hB.froz]
  simp; omega
 refine wp_store_mid T x y ho b 0 _ hx hy (by simpa using ht) (by simp [hl, h3]) (all_oneCell_toArray h1) ?_
 refine h _ ⟨fun o => ?_, fun o => by rw [World.frozen?_setCells]; exact hB.froz o, ?_⟩ (Mod.setCellsL b _ 0 w)
 ·by_cases ho : o < vs.length
  ·have := World.cell?_setCells_in b vs 0 w (fun i hi => (ht i hi).1) o ho
   rw [Nat.zero_add] at this
   simp only [List.getElem?_toArray]
   rw [List.getElem?_eq_getElem ho]
   exact this
  ·rw [World.cell?_setCells_out b _ 0 w _ (fun _ _ => .inr (by simp at ho ⊢; omega)), hB.cell]
   simp at ho ⊢
   rw [List.getElem?_eq_none (by omega), List.getElem?_eq_none (by omega)]
 ·exact Nat.lt_of_lt_of_le hB.lt (Mod.setCellsL b _ 0 w).size
end
theorem mText_le (s : Bs) (c most : Int) (hm : 0 ≤ most) : ((mText s c most).1.length : Int) ≤ most := by
 by_cases h : (mText s c most).2.2 = 0
 ·exact (mText_eats s c most h).2.2
 ·unfold mText at h ⊢
  split
  ·simpa using hm
  ·rename_i h1
   rw [if_neg h1] at h
   split
   ·simpa using hm
   ·rename_i h2
    rw [if_neg h2] at h
    exact absurd rfl h
theorem rdT_at {s a b : Bs} {n : Nat} {s1 s2 s3 : Bs} {c1 c2 c3 : Int} {h : Hd} {l : List (Bs × Int)} {e f : Int} (e1 : mText s 0 65536 = (a, s1, c1)) (e2 : mText s1 c1 65536 = (b, s2, c2)) (e3 : mNum s2 c2 = (n, s3, c3)) (e4 : decH a = (h, e)) (e5 : decM b = (l, f)) :
  rdT s = ⟨⟨h, l, n⟩, s3, c3, e, f⟩ := by
 unfold rdT
 simp only [e1, e2, e3, e4, e5]
def TRow (w : World) (base : Nat) (v : Value) (t : Tr) : Prop := ∃ sk ms, v = .agg #[.int .i64 t.head.height, .int .i64 t.head.epoch, .int .i64 t.head.view, .bool t.head.last, .string ⟨List.toArray t.head.parent⟩, .string ⟨List.toArray t.head.state⟩, .string ⟨List.toArray t.head.receipts⟩, .string ⟨List.toArray t.head.txs⟩, .string ⟨List.toArray t.head.members⟩, .string ⟨List.toArray t.head.next⟩, sk, ms, .int .i64 t.at_] ∧ SRow w base sk t.head.skips ∧ MRow w base ms t.set
theorem Rdr.keepW {w w' : World} {p : Nat} {s : Bs} {c : Int} (h : Rdr w p s c) (hb : Below w.heap.size w w') : Rdr w' p s c := h.mod (l := []) (Mod.of_below hb) (by simp)
theorem tr_decode (s : Bs) (hs : s.length ≤ 9223372036854775000) (w : World) (hkt : KT w) :
  Calls Tryz.prog 12 #[.string ⟨List.toArray s⟩] w fun e w' => ∃ v, e = .returned (.tuple #[v, .int .i64 ((decT s).2)]) ∧ TRow w' w.heap.size v (decT s).1 ∧ Below w.heap.size w w' := by
 generalize hR : decT s = R
 have HR := Lib.hid hR
 clear hR
 have hz0 : Blk (w.alloc (.cells ztA 27)) w.heap.size (List.toArray ztL) := Blk.new _ _ _
 have hb0 : Below w.heap.size w (w.alloc (.cells ztA 27)) := Below.allocS (Below.refl _ _) _
 have hs0 : (w.alloc (.cells ztA 27)).heap.size = w.heap.size + 1 := by simp
 have hrn := readNew s (w.alloc (.cells ztA 27))
 go_enter Tryz.func12, Tryz.ntmps12
 go_wp2_with fail
 refine hrn.mono ?_
 rintro e w1 ⟨rfl, hw1⟩
 have R0 : Rdr w1 (w.heap.size + 1) s 0 := by rw [hw1, ← hs0]; exact Rdr.new (by omega)
 have Z0 : Blk w1 w.heap.size (List.toArray ztL) := by rw [hw1]; exact hz0.alloc _
 have hb1 : Below w.heap.size w w1 := by rw [hw1]; exact Below.allocS hb0 _
 have hs1 : w1.heap.size = w.heap.size + 2 := by rw [hw1]; simp
 rw [hs0]
 clear hrn hw1 hz0 hb0 hs0
 generalize hp : w.heap.size + 1 = p at *
 have o1 : w.heap.size < p := by omega
 have o3 : p < w1.heap.size := by omega
 clear hs1 hp
 have h1 := rtext_any s 0 65536 p _ R0
 have l1 := mText_le s 0 65536 (by omega)
 generalize e1 : mText s 0 65536 = y at h1 l1
 obtain ⟨ab, s1, c1⟩ := y
 have E1 := Lib.hid e1
 clear e1
 simp only at h1 l1
 go_wp2_with fail
 refine h1.mono ?_
 rintro e w2 ⟨rfl, R1, m1⟩
 have Z1 := Z0.mod m1 (by simp; omega)
 have hb2 := Below.mod hb1 m1 hb1.size (by simp; omega)
 have o4 : p < w2.heap.size := R1.lt
 clear h1 m1 R0 Z0 hb1 o3
 have h2 := hd_decode ab (by omega) w2
 generalize e4 : decH ab = y at h2
 obtain ⟨⟨a1, a2, a3, lb, pa, st, rc, tx, me, ne, K⟩, ce⟩ := y
 have E4 := Lib.hid e4
 clear e4
 simp only at h2
 go_wp2_with fail
 refine h2.mono ?_
 rintro e w3 ⟨_, rfl, ⟨sk, rfl, hsk⟩, hb⟩
 simp only at hsk ⊢
 obtain ⟨ka, kc, rfl⟩ := hsk.form
 have R2 := R1.keepW hb
 have Z2 := Z1.keep hb
 have hb3 := hb2.trans (hb.mono hb2.size)
 have o5 := Nat.lt_of_lt_of_le o4 hb.size
 have hskb : SRow w3 w2.heap.size (.slice ka K.length kc) K := hsk
 have o6 := hb.size
 clear h2 hb R1 Z1 hb2 hsk
 have h3 := fun W (h : Rdr W p s1 c1) => rtext_any s1 c1 65536 p W h
 have l2 := mText_le s1 c1 65536 (by omega)
 generalize e2 : mText s1 c1 65536 = y at h3 l2
 obtain ⟨bb, s2, c2⟩ := y
 have E2 := Lib.hid e2
 clear e2
 simp only at h3 l2
 go_wp2_with (first | (refine wpList_rowStore row_head rfl rfl (.tmp 5) (.tmp 16) rfl rfl rfl (vs := [.int .i64 a1, .int .i64 a2, .int .i64 a3, .bool lb, .string ⟨List.toArray pa⟩, .string ⟨List.toArray st⟩, .string ⟨List.toArray rc⟩, .string ⟨List.toArray tx⟩, .string ⟨List.toArray me⟩, .string ⟨List.toArray ne⟩, .slice ka K.length kc]) rfl (by simp [Value.oneCell']) (us := [.int .i64 0, .int .i64 0, .int .i64 0, .bool false, .string ⟨List.toArray []⟩, .string ⟨List.toArray []⟩, .string ⟨List.toArray []⟩, .string ⟨List.toArray []⟩, .string ⟨List.toArray []⟩, .string ⟨List.toArray []⟩, .slice none 0 0]) rfl (Blk.new' (by simp)) ?_; intro w4 N4 m4))
 have hbm : Below w3.heap.size w3 w4 := Below.mod (Below.allocS (Below.refl _ _) _) m4 (by simp) (by simp)
 have R3 := R2.keepW hbm
 have Z3 := Z2.keep hbm
 have hsk4 := hskb.keep hbm
 have hb4 := hb3.trans (hbm.mono hb3.size)
 refine (h3 _ R3).mono ?_
 rintro e w5 ⟨rfl, R4, m5⟩
 have Z4 := Z3.mod m5 (by simp; omega)
 have N5 := N4.mod m5 (by simp; omega)
 have hsk5 := hsk4.mod m5 (by omega)
 have hb5 := Below.mod hb4 m5 hb4.size (by simp; omega)
 have o7 : p < w5.heap.size := R4.lt
 have o8 := N5.lt
 clear h3 hbm m4 m5 R2 R3 Z2 Z3 hsk4 hskb hb3 hb4 N4
 have h4 := mdecode_any bb (by omega) w5
 generalize e5 : decM bb = y at h4
 obtain ⟨L, cf⟩ := y
 have E5 := Lib.hid e5
 clear e5
 simp only at h4
 go_wp2_with fail
 refine h4.mono ?_
 rintro e w6 ⟨ms, rfl, hms, hb⟩
 obtain ⟨mb, mc, rfl⟩ := hms.ms.form
 have R5 := R4.keepW hb
 have Z5 := Z4.keep hb
 have N6 := N5.keep hb
 have hsk6 := hsk5.keep hb
 have hb6 := hb5.trans (hb.mono hb5.size)
 have o9 := hb.size
 clear h4 hb R4 Z4 N5 hsk5 hb5
 have h5 := fun W (h : Rdr W p s2 c2) => rnum_any s2 c2 p W h
 generalize e3 : mNum s2 c2 = y at h5
 obtain ⟨n, s3, c3⟩ := y
 have E3 := Lib.hid e3
 clear e3
 simp only at h5
 go_wp2_with fail
 refine wpH_startM [p] (by kernel_rfl) (fun hS => ?_)
 have hRc := R5.drew
 refine wpH_row row_head 0 (oi := { dst := some 24, op := Op.load 24 (Operand.tmp 5), type := 24, pos := "trust.go:37", after := #[], guard := none }) rfl (by kernel_rfl) (by kernel_rfl) (by kernel_rfl) (by rfl) hS (vs := [.int .i64 a1, .int .i64 a2, .int .i64 a3, .bool lb, .string ⟨List.toArray pa⟩, .string ⟨List.toArray st⟩, .string ⟨List.toArray rc⟩, .string ⟨List.toArray tx⟩, .string ⟨List.toArray me⟩, .string ⟨List.toArray ne⟩, .slice ka K.length kc]) (fun _ _ _ h => h) (.tmp 5) rfl rfl (rfl) (fun w hb2 => N6.mod hb2 (by simp; omega)) ?_
 try simp only [pna, pnb, pnc, pnd, pne]
 (refine hP 1 ?_ ⟨some 25, .move (.tmp 7), 25, "", #[], none⟩ hS ?_ ?_; rotate_left; focus (intro w; go_simp; try with_reducible rfl))
 try simp only [pna, pnb, pnc, pnd, pne]
 (refine hP 2 ?_ ⟨some 26, .move (.tmp 4), 96, "", #[], none⟩ hS ?_ ?_; rotate_left; focus (intro w; go_simp; try with_reducible rfl))
 try simp only [pna, pnb, pnc, pnd, pne]
 refine wpAnyH_all (rs := [3, 5]) (by kernel_rfl) (by simp) (fun jj hjj => ?_)
 simp only [List.mem_cons, List.not_mem_nil, or_false] at hjj
 rcases hjj with rfl | rfl
 refine wpO_call (oi := { dst := some 27, op := Op.call { callee := Callee.value (Operand.func 57), args := #[Operand.tmp 26], argTypes := #[96] }, type := 3, pos := "trust.go:37", after := #[{ on := 2, ground := Ground.data }], guard := none }) rfl (by rfl) (h5 _ hRc) ?_ ?_
 ·(go_simp; try rfl)
 rintro e w' ⟨rfl, hR7, hm7⟩
 refine ⟨_, rfl, hS.trans hm7, ?_⟩
 replace hS := hS.trans hm7
 try replace K9 := K9.mod hm7 (by simp; omega)
 try simp only [pna, pnb, pnc, pnd, pne]
 refine wpH_load 4 (.agg (List.toArray [.int .i64 a1, .int .i64 a2, .int .i64 a3, .bool lb, .string ⟨List.toArray pa⟩, .string ⟨List.toArray st⟩, .string ⟨List.toArray rc⟩, .string ⟨List.toArray tx⟩, .string ⟨List.toArray me⟩, .string ⟨List.toArray ne⟩, .slice ka K.length kc, .slice mb L.length mc, .int .i64 ((n : Nat))])) (oi := { dst := some 28, op := Op.build 27 #[(0, Operand.tmp 24), (1, Operand.tmp 25), (2, Operand.tmp 27)], type := 27, pos := "trust.go:37", after := #[{ on := 0, ground := Ground.data }, { on := 1, ground := Ground.data }, { on := 3, ground := Ground.data }], guard := none }) rfl (by kernel_rfl) (by kernel_rfl) (by kernel_rfl) (by rfl) hS (fun _ _ _ h => h) (fun w hb2 => (by go_simp; try rfl)) ?_
 try simp only [pna, pnb, pnc, pnd, pne]
 refine wpH_op 5 (oi := { dst := some 9, op := Op.alloc 27, type := 0, pos := "trust.go:37", after := #[], guard := none }) rfl (by kernel_rfl) (by rfl) ?_
 refine wp_allocK 27 rfl (List.toArray ztL) (fun w => by go_simp; try rfl) (fun k9 W9 hk9 K9 hbk9 => ?_)
 have hge9 := hS.size
 refine hold_and (hS.trans (Mod.of_below hbk9)) (fun hS => ?_)
 try replace hR7 := hR7.keepW hbk9
 try replace hRc := hRc.keepW hbk9
 try simp only [pna, pnb, pnc, pnd, pne]
 refine wpH_op 6 (oi := { dst := none, op := Op.store 27 (Operand.tmp 9) (Operand.tmp 28), type := 0, pos := "trust.go:37", after := #[{ on := 5, ground := Ground.data }, { on := 4, ground := Ground.data }, { on := 3, ground := Ground.chain }, { on := 0, ground := Ground.phase }, { on := 1, ground := Ground.phase }, { on := 2, ground := Ground.phase }, { on := 3, ground := Ground.phase }, { on := 4, ground := Ground.phase }, { on := 5, ground := Ground.phase }], guard := none }) rfl (by kernel_rfl) (by rfl) ?_
 refine wp_rowStore row_trust (.tmp 9) (.tmp 28) rfl rfl (vs := [.int .i64 a1, .int .i64 a2, .int .i64 a3, .bool lb, .string ⟨List.toArray pa⟩, .string ⟨List.toArray st⟩, .string ⟨List.toArray rc⟩, .string ⟨List.toArray tx⟩, .string ⟨List.toArray me⟩, .string ⟨List.toArray ne⟩, .slice ka K.length kc, .slice mb L.length mc, .int .i64 ((n : Nat))]) rfl rfl (by simp [Value.oneCell']) (us := ztL) rfl K9 ?_
 rintro w10 K10 m10
 refine hold_and (hS.call m10 (by intro x hx; simp at hx; subst hx; right; omega)) (fun hS => ?_)
 have hR10 := hR7.mod m10 (by simp; omega)
 try simp only [pna, pnb, pnc, pnd, pne]
 refine wpAnyH_done (by kernel_rfl) ?_ _
 rotate_left
 refine wpO_op (oi := { dst := some 9, op := Op.alloc 27, type := 0, pos := "trust.go:37", after := #[], guard := none }) rfl (by rfl) ?_
 refine wp_allocK 27 rfl (List.toArray ztL) (fun w => by go_simp; try rfl) (fun k9 W9 hk9 K9 hbk9 => ?_)
 have hge9 := hS.size
 refine hold_and (hS.trans (Mod.of_below hbk9)) (fun hS => ?_)
 try replace hR7 := hR7.keepW hbk9
 try replace hRc := hRc.keepW hbk9
 try simp only [pna, pnb, pnc, pnd, pne]
 refine wpH_call 3 (oi := { dst := some 27, op := Op.call { callee := Callee.value (Operand.func 57), args := #[Operand.tmp 26], argTypes := #[96] }, type := 3, pos := "trust.go:37", after := #[{ on := 2, ground := Ground.data }], guard := none }) rfl (by kernel_rfl) (by rfl) (h5 _ hRc) ?_ ?_
 ·(go_simp; try rfl)
 rintro e w' ⟨rfl, hR7, hm7⟩
 refine ⟨_, rfl, hS.trans hm7, ?_⟩
 replace hS := hS.trans hm7
 try replace K9 := K9.mod hm7 (by simp; omega)
 try simp only [pna, pnb, pnc, pnd, pne]
 refine wpH_load 4 (.agg (List.toArray [.int .i64 a1, .int .i64 a2, .int .i64 a3, .bool lb, .string ⟨List.toArray pa⟩, .string ⟨List.toArray st⟩, .string ⟨List.toArray rc⟩, .string ⟨List.toArray tx⟩, .string ⟨List.toArray me⟩, .string ⟨List.toArray ne⟩, .slice ka K.length kc, .slice mb L.length mc, .int .i64 ((n : Nat))])) (oi := { dst := some 28, op := Op.build 27 #[(0, Operand.tmp 24), (1, Operand.tmp 25), (2, Operand.tmp 27)], type := 27, pos := "trust.go:37", after := #[{ on := 0, ground := Ground.data }, { on := 1, ground := Ground.data }, { on := 3, ground := Ground.data }], guard := none }) rfl (by kernel_rfl) (by kernel_rfl) (by kernel_rfl) (by rfl) hS (fun _ _ _ h => h) (fun w hb2 => (by go_simp; try rfl)) ?_
 try simp only [pna, pnb, pnc, pnd, pne]
 refine wpH_op 6 (oi := { dst := none, op := Op.store 27 (Operand.tmp 9) (Operand.tmp 28), type := 0, pos := "trust.go:37", after := #[{ on := 5, ground := Ground.data }, { on := 4, ground := Ground.data }, { on := 3, ground := Ground.chain }, { on := 0, ground := Ground.phase }, { on := 1, ground := Ground.phase }, { on := 2, ground := Ground.phase }, { on := 3, ground := Ground.phase }, { on := 4, ground := Ground.phase }, { on := 5, ground := Ground.phase }], guard := none }) rfl (by kernel_rfl) (by rfl) ?_
 refine wp_rowStore row_trust (.tmp 9) (.tmp 28) rfl rfl (vs := [.int .i64 a1, .int .i64 a2, .int .i64 a3, .bool lb, .string ⟨List.toArray pa⟩, .string ⟨List.toArray st⟩, .string ⟨List.toArray rc⟩, .string ⟨List.toArray tx⟩, .string ⟨List.toArray me⟩, .string ⟨List.toArray ne⟩, .slice ka K.length kc, .slice mb L.length mc, .int .i64 ((n : Nat))]) rfl rfl (by simp [Value.oneCell']) (us := ztL) rfl K9 ?_
 rintro w10 K10 m10
 refine hold_and (hS.call m10 (by intro x hx; simp at hx; subst hx; right; omega)) (fun hS => ?_)
 have hR10 := hR7.mod m10 (by simp; omega)
 try simp only [pna, pnb, pnc, pnd, pne]
 refine wpAnyH_done (by kernel_rfl) ?_ _
 rotate_left
 all_goals
  have Z10 := Z5.mod hS (by simp; omega)
  have hsk10 := hsk6.mod hS (by omega)
  have hms10 := hms.mod hS (by omega)
  have hb10 := Below.mod hb6 hS hb6.size (by simp; omega)
  have hen := rend_any s3 c3 p w10 hR10
  have HRD : Hid (R = if mEnd s3 c3 = 0 ∧ ce = 0 ∧ cf = 0 ∧ fineT ⟨⟨a1, a2, a3, lb, pa, st, rc, tx, me, ne, K⟩, L, n⟩ = true then (⟨⟨a1, a2, a3, lb, pa, st, rc, tx, me, ne, K⟩, L, n⟩, 0) else (trZ, 3)) := Lib.hid (by
   rw [← HR.out]
   unfold decT
   rw [rdT_at E1.out E2.out E3.out E4.out E5.out])
  have o10 : w.heap.size ≤ w2.heap.size := by omega
  have o11 : w.heap.size ≤ w5.heap.size := by omega
  clear hS m10 hR10 hR7 Z5 hsk6 hms hb6 E1 E2 E3 E4 E5 HR h5 K9 N6 R5
  generalize mEnd s3 c3 = cod at *
  go_wp2_with fail
  refine hen.mono ?_
  rintro e w11 ⟨rfl, m11⟩
  have Z11 : Blk w11 w.heap.size (List.toArray ztL) := Z10.mod m11 (by simp; omega)
  have K11 := K10.mod m11 (by simp; omega)
  have hsk11 := hsk10.mod m11 (by omega)
  have hms11 := hms10.mod m11 (by omega)
  have hb11 := Below.mod hb10 m11 hb10.size (by simp; omega)
  clear hen m11 Z10 K10 hsk10 hms10 hb10
  by_cases h0 : cod = 0
  case neg =>
   have g1 : (cod == 0) = false := by simpa using h0
   have g2 : (cod != 0) = true := by simpa using h0
   have HRE : Hid (R = (trZ, 3)) := Lib.hid (by rw [HRD.out, if_neg (fun h => h0 h.1)])
   clear h0 HRD
   go_wp2_with (first | (refine wpList_rowStore row_trust rfl rfl (.tmp 2) (.tmp 45) rfl rfl rfl (vs := [.int .i64 0, .int .i64 0, .int .i64 0, .bool false, .string ⟨List.toArray []⟩, .string ⟨List.toArray []⟩, .string ⟨List.toArray []⟩, .string ⟨List.toArray []⟩, .string ⟨List.toArray []⟩, .string ⟨List.toArray []⟩, .slice none 0 0, .slice none 0 0, .int .i64 0]) rfl (by simp [Value.oneCell']) (us := ztL) rfl Z11 ?_; intro w15 N15 m15))
   have hld := row_loadVar row_trust w15 (vs := [.int .i64 0, .int .i64 0, .int .i64 0, .bool false, .string ⟨List.toArray []⟩, .string ⟨List.toArray []⟩, .string ⟨List.toArray []⟩, .string ⟨List.toArray []⟩, .string ⟨List.toArray []⟩, .string ⟨List.toArray []⟩, .slice none 0 0, .slice none 0 0, .int .i64 0]) rfl N15
   refine bodyPost_ret (results_cell_tmp2 rfl _ _ _ _ rfl hld) rfl ?_
   rw [HRE.out]
   exact ⟨_, rfl, ⟨_, _, rfl, SRow.nil _ _, MRow.nil _ _⟩, Below.mod hb11 m15 hb11.size (by simp)⟩
  case pos =>
  subst h0
  by_cases h0 : ce = 0
  case neg =>
   have g1 : (ce == 0) = false := by simpa using h0
   have g2 : (ce != 0) = true := by simpa using h0
   have HRE : Hid (R = (trZ, 3)) := Lib.hid (by rw [HRD.out, if_neg (fun h => h0 h.2.1)])
   clear h0 HRD
   go_wp2_with (first | (refine wpList_rowStore row_trust rfl rfl (.tmp 2) (.tmp 45) rfl rfl rfl (vs := [.int .i64 0, .int .i64 0, .int .i64 0, .bool false, .string ⟨List.toArray []⟩, .string ⟨List.toArray []⟩, .string ⟨List.toArray []⟩, .string ⟨List.toArray []⟩, .string ⟨List.toArray []⟩, .string ⟨List.toArray []⟩, .slice none 0 0, .slice none 0 0, .int .i64 0]) rfl (by simp [Value.oneCell']) (us := ztL) rfl Z11 ?_; intro w15 N15 m15))
   have hld := row_loadVar row_trust w15 (vs := [.int .i64 0, .int .i64 0, .int .i64 0, .bool false, .string ⟨List.toArray []⟩, .string ⟨List.toArray []⟩, .string ⟨List.toArray []⟩, .string ⟨List.toArray []⟩, .string ⟨List.toArray []⟩, .string ⟨List.toArray []⟩, .slice none 0 0, .slice none 0 0, .int .i64 0]) rfl N15
   refine bodyPost_ret (results_cell_tmp2 rfl _ _ _ _ rfl hld) rfl ?_
   rw [HRE.out]
   exact ⟨_, rfl, ⟨_, _, rfl, SRow.nil _ _, MRow.nil _ _⟩, Below.mod hb11 m15 hb11.size (by simp)⟩
  case pos =>
  subst h0
  by_cases h0 : cf = 0
  case neg =>
   have g1 : (cf == 0) = false := by simpa using h0
   have g2 : (cf != 0) = true := by simpa using h0
   have HRE : Hid (R = (trZ, 3)) := Lib.hid (by rw [HRD.out, if_neg (fun h => h0 h.2.2.1)])
   clear h0 HRD
   go_wp2_with (first | (refine wpList_rowStore row_trust rfl rfl (.tmp 2) (.tmp 45) rfl rfl rfl (vs := [.int .i64 0, .int .i64 0, .int .i64 0, .bool false, .string ⟨List.toArray []⟩, .string ⟨List.toArray []⟩, .string ⟨List.toArray []⟩, .string ⟨List.toArray []⟩, .string ⟨List.toArray []⟩, .string ⟨List.toArray []⟩, .slice none 0 0, .slice none 0 0, .int .i64 0]) rfl (by simp [Value.oneCell']) (us := ztL) rfl Z11 ?_; intro w15 N15 m15))
   have hld := row_loadVar row_trust w15 (vs := [.int .i64 0, .int .i64 0, .int .i64 0, .bool false, .string ⟨List.toArray []⟩, .string ⟨List.toArray []⟩, .string ⟨List.toArray []⟩, .string ⟨List.toArray []⟩, .string ⟨List.toArray []⟩, .string ⟨List.toArray []⟩, .slice none 0 0, .slice none 0 0, .int .i64 0]) rfl N15
   refine bodyPost_ret (results_cell_tmp2 rfl _ _ _ _ rfl hld) rfl ?_
   rw [HRE.out]
   exact ⟨_, rfl, ⟨_, _, rfl, SRow.nil _ _, MRow.nil _ _⟩, Below.mod hb11 m15 hb11.size (by simp)⟩
  case pos =>
  subst h0
  have hck := tr_check a1 a2 a3 lb pa st rc tx me ne K (.slice ka K.length kc) L (.slice mb L.length mc) (n : Int) w11 hsk11.ss hms11.ms (hkt.keep hb11)
  cases hf : fineT ⟨⟨a1, a2, a3, lb, pa, st, rc, tx, me, ne, K⟩, L, n⟩
  ·rw [hf, show codeT false = 3 from rfl] at hck
   have HRE : Hid (R = (trZ, 3)) := Lib.hid (by rw [HRD.out, if_neg (fun h => by rw [hf] at h; exact absurd h.2.2.2 (by decide))])
   clear hf HRD
   go_wp2_with (first | (refine wpList_rowLoadG row_trust ?hw (.tmp 9) rfl rfl (vs := [.int .i64 a1, .int .i64 a2, .int .i64 a3, .bool lb, .string ⟨List.toArray pa⟩, .string ⟨List.toArray st⟩, .string ⟨List.toArray rc⟩, .string ⟨List.toArray tx⟩, .string ⟨List.toArray me⟩, .string ⟨List.toArray ne⟩, .slice ka K.length kc, .slice mb L.length mc, .int .i64 ((n : Nat))]) rfl K11 ?_; (case hw => rfl)))
   refine hck.mono ?_
   rintro e w12 ⟨rfl, hb⟩
   have Z12 := Z11.keep hb
   have hb12 := hb11.trans (hb.mono hb11.size)
   clear hck hb hb11 Z11 K11 hsk11 hms11
   go_wp2_with (first | (refine wpList_rowStore row_trust rfl rfl (.tmp 2) (.tmp 45) rfl rfl rfl (vs := [.int .i64 0, .int .i64 0, .int .i64 0, .bool false, .string ⟨List.toArray []⟩, .string ⟨List.toArray []⟩, .string ⟨List.toArray []⟩, .string ⟨List.toArray []⟩, .string ⟨List.toArray []⟩, .string ⟨List.toArray []⟩, .slice none 0 0, .slice none 0 0, .int .i64 0]) rfl (by simp [Value.oneCell']) (us := ztL) rfl Z12 ?_; intro w15 N15 m15))
   have hld := row_loadVar row_trust w15 (vs := [.int .i64 0, .int .i64 0, .int .i64 0, .bool false, .string ⟨List.toArray []⟩, .string ⟨List.toArray []⟩, .string ⟨List.toArray []⟩, .string ⟨List.toArray []⟩, .string ⟨List.toArray []⟩, .string ⟨List.toArray []⟩, .slice none 0 0, .slice none 0 0, .int .i64 0]) rfl N15
   refine bodyPost_ret (results_cell_tmp2 rfl _ _ _ _ rfl hld) rfl ?_
   rw [HRE.out]
   exact ⟨_, rfl, ⟨_, _, rfl, SRow.nil _ _, MRow.nil _ _⟩, Below.mod hb12 m15 hb12.size (by simp)⟩
  ·rw [hf, show codeT true = 0 from rfl] at hck
   have HRE : Hid (R = (⟨⟨a1, a2, a3, lb, pa, st, rc, tx, me, ne, K⟩, L, n⟩, 0)) := Lib.hid (by rw [HRD.out, if_pos ⟨rfl, rfl, rfl, hf⟩])
   clear hf HRD
   go_wp2_with (first | (refine wpList_rowLoadG row_trust ?hw (.tmp 9) rfl rfl (vs := [.int .i64 a1, .int .i64 a2, .int .i64 a3, .bool lb, .string ⟨List.toArray pa⟩, .string ⟨List.toArray st⟩, .string ⟨List.toArray rc⟩, .string ⟨List.toArray tx⟩, .string ⟨List.toArray me⟩, .string ⟨List.toArray ne⟩, .slice ka K.length kc, .slice mb L.length mc, .int .i64 ((n : Nat))]) rfl K11 ?_; (case hw => rfl)))
   refine hck.mono ?_
   rintro e w12 ⟨rfl, hb⟩
   have Z12 := Z11.keep hb
   have K12 := K11.keep hb
   have hsk12 := hsk11.keep hb
   have hms12 := hms11.keep hb
   have hb12 := hb11.trans (hb.mono hb11.size)
   clear hck hb hb11 Z11 K11 hsk11 hms11
   go_wp2_with (first | (refine wpList_rowLoad row_trust rfl (.tmp 9) rfl rfl (vs := [.int .i64 a1, .int .i64 a2, .int .i64 a3, .bool lb, .string ⟨List.toArray pa⟩, .string ⟨List.toArray st⟩, .string ⟨List.toArray rc⟩, .string ⟨List.toArray tx⟩, .string ⟨List.toArray me⟩, .string ⟨List.toArray ne⟩, .slice ka K.length kc, .slice mb L.length mc, .int .i64 ((n : Nat))]) rfl K12 ?_) | (refine wpList_rowStore row_trust rfl rfl (.tmp 2) (.tmp 46) rfl rfl rfl (vs := [.int .i64 a1, .int .i64 a2, .int .i64 a3, .bool lb, .string ⟨List.toArray pa⟩, .string ⟨List.toArray st⟩, .string ⟨List.toArray rc⟩, .string ⟨List.toArray tx⟩, .string ⟨List.toArray me⟩, .string ⟨List.toArray ne⟩, .slice ka K.length kc, .slice mb L.length mc, .int .i64 ((n : Nat))]) rfl (by simp [Value.oneCell']) (us := ztL) rfl Z12 ?_; intro w15 N15 m15))
   have hld := row_loadVar row_trust w15 (vs := [.int .i64 a1, .int .i64 a2, .int .i64 a3, .bool lb, .string ⟨List.toArray pa⟩, .string ⟨List.toArray st⟩, .string ⟨List.toArray rc⟩, .string ⟨List.toArray tx⟩, .string ⟨List.toArray me⟩, .string ⟨List.toArray ne⟩, .slice ka K.length kc, .slice mb L.length mc, .int .i64 ((n : Nat))]) rfl N15
   refine bodyPost_ret (results_cell_tmp2 rfl _ _ _ _ rfl hld) rfl ?_
   rw [HRE.out]
   exact ⟨_, rfl, ⟨_, _, rfl, SRow.low (hsk12.mod m15 (by omega)) o10, MRow.low (hms12.mod m15 (by omega)) o11⟩, Below.mod hb12 m15 hb12.size (by simp)⟩
end Go.Proofs.YthgjdaomcpinaaaGreatDoor
namespace Go.Proofs.YthgjdaomcpinaaaGreatDoor
open Go.RowKit Pl
theorem rleft_any (s : Bs) (c : Int) (p : Nat) (w : World) (R : Rdr w p s c) :
  Calls Tryz.prog 111 #[.pointer (some ⟨p, 0, none⟩)] w fun e w' => e = .returned (.int .i64 ((s.length : Int))) ∧ ∃ n, w' = w.drewN n := by
 obtain ⟨l, a, h1, h2, rfl, B⟩ := id R
 have h := left_any l a c p w h1 h2 B
 rw [show ((l.length : Int) - (a : Int)) = ((l.drop a).length : Int) from by rw [List.length_drop]; omega] at h
 exact h
def nextOk (w w' : World) (R : Option (List Bs × Nat)) (e : Ending) : Prop :=
 Below w.heap.size w w' ∧ (∀ x, R = some x → ∃ v, e = .returned (.tuple #[v, .int .i64 ((x.2 : Int)), .bool true]) ∧ SRow w' w.heap.size v x.1) ∧ (R = none → e = .returned (.tuple #[.slice none 0 0, .int .i64 0, .bool false]))
theorem nextOk.no {w w' : World} {R : Option (List Bs × Nat)} (hb : Below w.heap.size w w') (h : R = none) : nextOk w w' R (.returned (.tuple #[.slice none 0 0, .int .i64 0, .bool false])) :=
 ⟨hb, fun x hx => (by rw [h] at hx; cases hx), fun _ => rfl⟩
theorem nextOk.yes {w w' : World} {R : Option (List Bs × Nat)} {b : List Bs} {n : Nat} {v : Value} (hb : Below w.heap.size w w') (h : R = some (b, n)) (hv : SRow w' w.heap.size v b) : nextOk w w' R (.returned (.tuple #[v, .int .i64 ((n : Int)), .bool true])) :=
 ⟨hb, fun x hx => (by rw [h] at hx; cases hx; exact ⟨v, rfl, hv⟩), fun h2 => (by rw [h] at h2; cases h2)⟩
theorem jnext_any (s : Bs) (hs : s.length ≤ 1048576) (w : World) (hk : KT w) :
  Calls Tryz.prog 153 #[.string ⟨List.toArray s⟩] w fun e w' => nextOk w w' (nextP s) e := by
 have hr := nText_len s
 obtain ⟨n, hn⟩ : ∃ n, n = nLong s := ⟨_, rfl⟩
 have hn2 : n + (nText s).2.1.length = s.length := by rw [hn]; unfold nLong; omega
 have hLl : ((nText s).1.length : Int) ≤ 524288 := mText_le s 0 524288 (by omega)
 have h1 := fun W (h : Rdr W w.heap.size s 0) => rtext_any s 0 524288 w.heap.size W h
 rw [show mText s 0 524288 = nText s from rfl] at h1
 have HN : Hid (nextP s = if (mBytes (nText s).2.1 (nText s).2.2 4).2.2 = 0 ∧ (sumP (s.take n)).take 4 = (mBytes (nText s).2.1 (nText s).2.2 4).1 ∧ mEnd (mList (nText s).1 0 1024 65536).2.1 (mList (nText s).1 0 1024 65536).2.2 = 0 then some ((mList (nText s).1 0 1024 65536).1, n + 4) else none) := Lib.hid (by rw [hn]; rfl)
 clear hn hr
 generalize nextP s = R at *
 generalize nText s = y at *
 obtain ⟨L, s1, c1⟩ := y
 simp only at HN h1 hn2 hLl
 have h2 := fun W (h : Rdr W w.heap.size s1 c1) => bytes_any s1 c1 4 w.heap.size W (by omega) h
 generalize mBytes s1 c1 4 = y at *
 obtain ⟨X, s2, c2⟩ := y
 have h3 := fun W p (h : Rdr W p L 0) => rlistL_any L 0 1024 65536 p W h (by omega)
 generalize mList L 0 1024 65536 = y at *
 obtain ⟨b, s3, c3⟩ := y
 simp only at HN h2 h3
 have h4 := fun W p (h : Rdr W p s3 c3) => rend_any s3 c3 p W h
 generalize mEnd s3 c3 = ce at *
 have h5 := fun W (hb : Below w.heap.size w W) => shasum_any (s.take n) (by rw [List.length_take]; omega) W (hk.keep hb)
 have hsl := sumP_len (s.take n)
 generalize hD : sumP (s.take n) = D at *
 have e0 := readNew s w
 have eL := fun W => readNew L W
 have hW1 : IntKind.i64.wrap ((s.length : Int) - (s1.length : Int)) = (n : Int) := by rw [IntKind.wrap_i64]; omega
 have hW2 : IntKind.i64.wrap ((n : Int) + 4) = (n : Int) + 4 := by rw [IntKind.wrap_i64]; omega
 have hnb : n ≤ s.length := by omega
 have hn0 : (0 : Int) ≤ (n : Int) ∧ (n : Int) ≤ (s.length : Int) := by omega
 clear hD hn2
 go_enter Tryz.func153, Tryz.ntmps153
 go_wp2_with fail
 refine e0.mono ?_
 rintro e w1 ⟨rfl, hw1⟩
 have R0 : Rdr w1 w.heap.size s 0 := by rw [hw1]; exact Rdr.new (by omega)
 have hb1 : Below w.heap.size w w1 := by rw [hw1]; exact Below.allocS (Below.refl _ _) _
 clear hw1 e0
 go_wp2_with fail
 refine (h1 _ R0).mono ?_
 rintro e w2 ⟨rfl, R1, m1⟩
 have hb2 := Below.mod hb1 m1 hb1.size (by simp)
 clear h1 R0 m1 hb1
 go_wp2_with fail
 refine (rleft_any s1 c1 _ _ R1).mono ?_
 rintro e w3 ⟨rfl, n3, rfl⟩
 have R2 := R1.drewN n3
 have hb3 := below_drewN hb2 n3
 generalize w2.drewN n3 = w3 at *
 clear R1 hb2
 go_wp2_with fail
 refine (h2 _ R2).mono ?_
 rintro e w4 ⟨rfl, R3, m3⟩
 have hb4 := Below.mod hb3 m3 hb3.size (by simp)
 clear h2 R2 m3 hb3
 go_wp2_with fail
 refine (rcode_any s2 c2 _ _ R3).mono ?_
 rintro e w5 ⟨rfl, n5, rfl⟩
 have R4 := R3.drewN n5
 have hb5 := below_drewN hb4 n5
 generalize w4.drewN n5 = w5 at *
 clear R3 hb4
 by_cases hc : c2 = 0
 ·subst hc
  go_wp2_with fail
  refine (h5 _ hb5).mono ?_
  rintro e w6 ⟨rfl, hb⟩
  have hb6 := hb5.trans (hb.mono hb5.size)
  clear h5 hb hb5
  by_cases hx : D.take 4 = X
  ·have g1 : (D.take 4 != X) = false := by simpa using hx
   have g3 : (D.take 4 == X) = true := by simpa using hx
   go_wp2_with fail
   refine (eL _).mono ?_
   rintro e w7 ⟨rfl, hw7⟩
   obtain ⟨p, hp⟩ : ∃ p, p = w6.heap.size := ⟨_, rfl⟩
   have R6 : Rdr w7 p L 0 := by rw [hw7, hp]; exact Rdr.new (by omega)
   have hb7 : Below w.heap.size w w7 := by rw [hw7]; exact hb6.trans ((Below.allocS (Below.refl _ _) _).mono hb6.size)
   have hpw : w.heap.size ≤ p := by have := hb6.size; omega
   rw [← hp]
   clear hw7 hp eL hb6
   go_wp2_with fail
   refine (h3 _ _ R6).mono ?_
   rintro e w8 ⟨v, rfl, hS, R7, m7⟩
   have hb8 := Below.mod hb7 m7 hb7.size (by simp; omega)
   have hS8 := hS.low hb7.size
   have hpl : p < w7.heap.size := R6.lt
   have hSS := hS
   clear h3 R6
   go_wp2_with fail
   refine (h4 _ _ R7).mono ?_
   rintro e w9 ⟨rfl, m8⟩
   have hb9 := Below.mod hb8 m8 hb8.size (by simp; omega)
   have hS9 := (hSS.mod m8 hpl).low hb7.size
   clear h4 R7 m8 hS8 hS hSS m7
   by_cases he : ce = 0
   ·subst he
    go_wp2_with fail
    go_ret3
    exact nextOk.yes hb9 (by rw [HN.out, if_pos (by simp [hx])]) hS9
   ·have g2 : (ce != 0) = true := by simpa using he
    have hno : R = none := by rw [HN.out, if_neg (fun h => he h.2.2)]
    go_wp2_with fail
    go_ret3
    exact nextOk.no hb9 hno
  ·have g1 : (D.take 4 != X) = true := by simpa using hx
   have g3 : (D.take 4 == X) = false := by simpa using hx
   have hno : R = none := by rw [HN.out, if_neg (fun h => hx h.2.1)]
   go_wp2_with fail
   go_ret3
   exact nextOk.no hb6 hno
 ·have g2 : (c2 != 0) = true := by simpa using hc
  have hno : R = none := by rw [HN.out, if_neg (fun h => hc h.1)]
  go_wp2_with fail
  go_ret3
  exact nextOk.no hb5 hno
end Go.Proofs.YthgjdaomcpinaaaGreatDoor
namespace Go.Proofs.YthgjdaomcpinaaaGreatDoor
open Go.RowKit Pl
abbrev nilSl : Value := .slice none 0 0
section
variable {w w' : World} {b b1 b2 s s1 s2 n m : Nat} {e e1 e2 : TypeId} {u v : Value} {xs ys : List Value}
theorem kinds_neO (h1 : w.ownsRow b1 e1 s1 u n xs) (h2 : w.ownsRow b2 e2 s2 v m ys) (hne : e1 ≠ e2) : ∀ k, u.ownBlock = some k → v.ownBlock ≠ some k := by
 intro k hu hv
 obtain ⟨c, f, q⟩ := Lib.ownsRow_kind h1 k hu
 obtain ⟨c2, f2, q2⟩ := Lib.ownsRow_kind h2 k hv
 rw [q] at q2
 injection q2 with q2
 injection q2 with _ q2 _
 exact hne q2
theorem row_keptO (h : w.ownsRow b e s v n xs) (hb : ∀ k, v.ownBlock = some k → w'.heap[k]? = w.heap[k]?) : w'.ownsRow b e s v n xs := by
 refine ⟨h.1, h.2.imp id ?_⟩
 rintro ⟨g, cap, cur, hv, h1, h2, h3⟩
 subst hv
 exact ⟨g, cap, cur, rfl, h1, (hb g rfl).trans h2, h3⟩
theorem row_ltO (h : w.ownsRow b e s v n xs) {k : Nat} (hk : v.ownBlock = some k) : b ≤ k ∧ k < w.heap.size := by
 rcases h.2 with ⟨rfl, _⟩ | ⟨g, cap, cur, rfl, h1, h2, _⟩
 ·cases hk
 ·cases hk
  refine ⟨h1, ?_⟩
  rcases Nat.lt_or_ge g w.heap.size with hlt | hge
  ·exact hlt
  ·rw [Array.getElem?_eq_none hge] at h2; cases h2
theorem row_modO {l : List Nat} (h : w.ownsRow b e s v n xs) (hm : Mod l w w') (hn : ∀ k, v.ownBlock = some k → k ∉ l) : w'.ownsRow b e s v n xs :=
 row_keptO h (fun k hk => hm.block k (row_ltO h hk).2 (hn k hk))
theorem row_belowO (h : w.ownsRow b e s v n xs) (hb : Below w.heap.size w w') : w'.ownsRow b e s v n xs :=
 row_keptO h (fun k hk => hb.block k (row_ltO h hk).2)
theorem row_lowO (h : w.ownsRow b e s v n xs) {c : Nat} (hc : c ≤ b) : w.ownsRow c e s v n xs := by
 refine ⟨h.1, h.2.imp id ?_⟩
 rintro ⟨g, cap, cur, hv, h1, h2⟩
 exact ⟨g, cap, cur, hv, Nat.le_trans hc h1, h2⟩
theorem row_grownO (h : w.ownsRow b e s v n xs) {r : Option Nat} (hg : w.grownBy w' r) (hn : ∀ k, v.ownBlock = some k → r ≠ some k) : w'.ownsRow b e s v n xs :=
 row_keptO h (fun k hk => hg.block k (row_ltO h hk).2 (fun e => hn k hk e.symm))
theorem row_openO (h : w.ownsRow b e s v n xs) : (v = .slice none 0 0 ∧ n = 0) ∨ ∃ g cap, v = .slice (some ⟨g, 0, none⟩) n cap ∧ b ≤ g ∧ g < w.heap.size ∧ n ≤ cap ∧ cap ≤ maxLen ∧ (∀ j, j < n * s → w.cell? ⟨g, j, none⟩ = xs[j]?) ∧ (∀ o, w.frozen? ⟨g, o, none⟩ = false) := by
 rcases h.2 with ⟨h1, h0⟩ | ⟨g, cap, cur, rfl, h1, h2, h3, h4, h5, h6⟩
 ·exact .inl ⟨h1, h0⟩
 ·refine .inr ⟨g, cap, rfl, h1, (row_ltO h rfl).2, h3, h4, fun j hj => ?_, fun o => ?_⟩
  ·rw [← h6, List.getElem?_take, if_pos hj]
   simp [World.cell?, h2]
  ·simp [World.frozen?, h2]
theorem row_formO (h : w.ownsRow b e s v n xs) : ∃ a c, v = .slice a n c := by
 rcases h.2 with ⟨h1, rfl⟩ | ⟨g, cap, cur, rfl, _⟩
 ·exact ⟨none, 0, h1⟩
 ·exact ⟨_, cap, rfl⟩
end
section
variable {ops : Array Oper} {o : Oper} {rest : List Oper} {a : Act} {w : World} {Q : Exit → Act → World → Prop}
theorem wp_appG {K : Act → World → Prop} (s x : Operand) (T e : TypeId) (z : Value) (sz by0 : Nat) (hT : Tryz.prog.underlying T = some (.slice e))
  (hinfo : (Tryz.prog.info? e).map (fun i => (i.zero, i.size, i.bytes)) = some (some z, sz, by0)) (hz : z.cells.size = sz) (hsz : 0 < sz) (hby : by0 ≤ 1000)
  (ho : o.op = .call { callee := .builtin .append, args := #[s, x], argTypes := #[T, T] })
  (base n : Nat) (v : Value) (xs us : List Value) (hs : a.eval s = v) (hown : w.ownsRow base e sz v n xs) (hus : us.length = sz)
  (q : Nat) (hx : a.eval x = .slice (some ⟨q, 0, none⟩) 1 1) (hq : ∀ j u, us[j]? = some u → w.cell? ⟨q, j, none⟩ = some u) (hu : ∀ u ∈ us, u.oneCell' = true)
  (hlen : n ≤ 1000000) (hbase : base ≤ w.heap.size)
  (h : ∀ v' w', w'.ownsRow base e sz v' (n + 1) (xs ++ us) → w.grownBy w' v.ownBlock → (v'.ownBlock = v.ownBlock ∨ v'.ownBlock = some w.heap.size) → K (a.put o.dst v') w') : o.wp Tryz.prog a w K Q := by
 obtain ⟨i0, hi, hz0, hz1, hz2⟩ := info_parts hinfo
 obtain ⟨v', w', hr, k2, k3, _, k5⟩ := run_append_own_at (P := Tryz.prog) w base T o.type e i0 z sz by0 hT hi hz0 hz1 hz2 hz hsz v n xs hown ⟨q, 0, none⟩ 1 1 us (by simpa using hus)
  (fun j y hj => by have := hq j y hj; rw [Addr.add_lit, Nat.zero_add]; exact this) hu (by unfold maxLen; omega)
  (by have : (n + 1) * by0 ≤ (n + 1) * 1000 := Nat.mul_le_mul_left _ hby; omega) hbase
 unfold Oper.wp execOp
 simp only [ho, resolve, invoke, builtin, Sem.run_bind, Sem.run_pure, Result.andThen_ok, List.map_toArray, List.map_cons, List.map_nil, hs, hx, hr]
 exact h v' w' k2 k3 k5
theorem wpList_appG (hgd : o.guard = none) (s x : Operand) (T e : TypeId) (z : Value) (sz by0 : Nat) (hT : Tryz.prog.underlying T = some (.slice e))
  (hinfo : (Tryz.prog.info? e).map (fun i => (i.zero, i.size, i.bytes)) = some (some z, sz, by0)) (hz : z.cells.size = sz) (hsz : 0 < sz) (hby : by0 ≤ 1000)
  (ho : o.op = .call { callee := .builtin .append, args := #[s, x], argTypes := #[T, T] })
  (base n : Nat) (v : Value) (xs us : List Value) (hs : a.eval s = v) (hown : w.ownsRow base e sz v n xs) (hus : us.length = sz)
  (q : Nat) (hx : a.eval x = .slice (some ⟨q, 0, none⟩) 1 1) (hq : ∀ j u, us[j]? = some u → w.cell? ⟨q, j, none⟩ = some u) (hu : ∀ u ∈ us, u.oneCell' = true)
  (hlen : n ≤ 1000000) (hbase : base ≤ w.heap.size)
  (h : ∀ v' w', w'.ownsRow base e sz v' (n + 1) (xs ++ us) → w.grownBy w' v.ownBlock → (v'.ownBlock = v.ownBlock ∨ v'.ownBlock = some w.heap.size) → wpList Tryz.prog ops Q rest (a.put o.dst v') w') : wpList Tryz.prog ops Q (o :: rest) a w :=
 wpList_plain hgd fun _ hK => wp_appG s x T e z sz by0 hT hinfo hz hsz hby ho base n v xs us hs hown hus q hx hq hu hlen hbase fun v' w' h2 h3 h4 => hK _ _ (h v' w' h2 h3 h4)
end
theorem grown_modO {w w' : World} {r : Option Nat} (h : w.grownBy w' r) : Mod r.toList w w' :=
 ⟨h.os, h.tape, h.output, h.size, fun k hk hn => h.block k hk (fun e => hn (by rw [← e]; simp))⟩
theorem SRow.grownO {w w' : World} {base : Nat} {v : Value} {l : List Bs} (h : SRow w base v l) {r : Option Nat} (hg : w.grownBy w' r) (hn : ∀ k, v.ownBlock = some k → r ≠ some k) : SRow w' base v l := row_grownO h hg hn
theorem infoSS : (Tryz.prog.info? 22).map (fun i => (i.zero, i.size, i.bytes)) = some (some (.slice none 0 0), 1, 24) := by kernel_rfl
def LS (w : World) (base : Nat) (v : Value) (B : List (List Bs)) : Prop :=
 ∃ ts : List Value, ts.length = B.length ∧ w.ownsRow base 22 1 v B.length ts ∧ ∀ i, i < B.length → SRow w base (ts.getD i nilSl) (B.getD i [])
theorem LS.nil (w : World) (base : Nat) : LS w base (.slice none 0 0) [] := ⟨[], rfl, ⟨rfl, .inl ⟨rfl, rfl⟩⟩, fun i hi => by cases hi⟩
theorem LS.keep {w w' : World} {base : Nat} {v : Value} {B : List (List Bs)} (h : LS w base v B) (hb : Below w.heap.size w w') : LS w' base v B := by
 obtain ⟨ts, h1, h2, h3⟩ := h
 exact ⟨ts, h1, row_belowO h2 hb, fun i hi => (h3 i hi).keep hb⟩
theorem LS.low {w : World} {base c : Nat} {v : Value} {B : List (List Bs)} (h : LS w base v B) (hc : c ≤ base) : LS w c v B := by
 obtain ⟨ts, h1, h2, h3⟩ := h
 exact ⟨ts, h1, row_lowO h2 hc, fun i hi => (h3 i hi).low hc⟩
theorem LS.modl {w w' : World} {base : Nat} {v : Value} {B : List (List Bs)} {l : List Nat} (h : LS w base v B) (hm : Mod l w w') (hl : ∀ x ∈ l, x < base) : LS w' base v B := by
 obtain ⟨ts, h1, h2, h3⟩ := h
 have hn : ∀ {b0 : Nat} {e : TypeId} {s n : Nat} {u : Value} {xs : List Value}, w.ownsRow base e s u n xs → ∀ k, u.ownBlock = some k → k ∉ l := fun hr k hk hi => by
  have h4 := (row_ltO hr hk).1
  have h5 := hl k hi
  omega
 exact ⟨ts, h1, row_modO h2 hm (hn (b0 := 0) h2), fun i hi => row_modO (h3 i hi) hm (hn (b0 := 0) (h3 i hi))⟩
theorem LS.form {w : World} {base : Nat} {v : Value} {B : List (List Bs)} (h : LS w base v B) : ∃ a c, v = .slice a B.length c := by
 obtain ⟨ts, h1, h2, h3⟩ := h
 exact row_formO h2
theorem LS.at {w : World} {base : Nat} {a : Option Addr} {c : Nat} {B : List (List Bs)} (h : LS w base (.slice a B.length c) B) (i : Nat) (hi : i < B.length) :
  ∃ g u, a = some ⟨g, 0, none⟩ ∧ g < w.heap.size ∧ w.cell? ⟨g, i, none⟩ = some u ∧ SRow w base u (B.getD i []) := by
 obtain ⟨ts, h1, h2, h3⟩ := h
 rcases row_openO h2 with ⟨e, h0⟩ | ⟨g, cap, e, k1, k2, k3, k4, k5, k6⟩
 ·omega
 ·injection e with e _ _
  refine ⟨g, ts.getD i nilSl, e, k2, ?_, h3 i hi⟩
  rw [k5 i (by omega), List.getD_eq_getElem?_getD, List.getElem?_eq_getElem (by omega)]
  rfl
theorem LS.snoc {w w' : World} {base : Nat} {v v' u : Value} {B : List (List Bs)} {b : List Bs} (h : LS w base v B) (hu : SRow w base u b) (hg : w.grownBy w' v.ownBlock) {ts : List Value} (ht : ts.length = B.length) (h3 : ∀ i, i < B.length → SRow w base (ts.getD i nilSl) (B.getD i []))
  (hr0 : w.ownsRow base 22 1 v B.length ts) (hr : w'.ownsRow base 22 1 v' (B.length + 1) (ts ++ [u])) : LS w' base v' (B ++ [b]) := by
 refine ⟨ts ++ [u], by simp [ht], by rw [List.length_append]; exact hr, fun i hi => ?_⟩
 have hk : ∀ {x : Value} {l : List Bs}, SRow w base x l → SRow w' base x l := fun hx => hx.grownO hg (fun k hk e => kinds_neO hx hr0 (by decide) k hk e)
 by_cases hlt : i < B.length
 ·have e1 : (ts ++ [u]).getD i nilSl = ts.getD i nilSl := by rw [List.getD_eq_getElem?_getD, List.getD_eq_getElem?_getD, List.getElem?_append_left (by omega)]
  have e2 : (B ++ [b]).getD i [] = B.getD i [] := by rw [List.getD_eq_getElem?_getD, List.getD_eq_getElem?_getD, List.getElem?_append_left hlt]
  rw [e1, e2]
  exact hk (h3 i hlt)
 ·have hil : i = B.length := by rw [List.length_append, List.length_singleton] at hi; omega
  subst hil
  have e1 : (ts ++ [u]).getD B.length nilSl = u := by rw [← ht]; simp
  have e2 : (B ++ [b]).getD B.length [] = b := by simp
  rw [e1, e2]
  exact hk hu
end Go.Proofs.YthgjdaomcpinaaaGreatDoor
