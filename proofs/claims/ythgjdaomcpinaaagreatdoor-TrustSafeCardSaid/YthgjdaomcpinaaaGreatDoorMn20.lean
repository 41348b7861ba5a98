/- TrustD, TrustS, Same. -/
import Derived.Test.YthgjdaomcpinaaaGreatDoorMn12
import Derived.Test.YthgjdaomcpinaaaGreatDoorMn16
import Derived.Test.YthgjdaomcpinaaaGreatDoorMn19
set_option linter.unnecessarySimpa false

/- What is trusted, of any bytes: the program's walk. Printed by mktrustd.py. -/
set_option linter.unusedSimpArgs false
set_option linter.unusedVariables false
namespace Go.Proofs.YthgjdaomcpinaaaGreatDoor
open Go.RowKit Go.Shelf Pl

theorem row_trust : RowT Tryz.prog 27 13 := RowT.mk' Tryz.underlying27 rfl (by kernel_rfl)
section
variable {P : Program} {T : TypeId} {n : Nat} {op : Oper} {a : Act} {w : World} {K : Act → World → Prop} {Q : Exit → Act → World → Prop}
theorem wp_rowStore (hT : RowT P T n) (x y : Operand) (ho : op.op = .store T x y) {b : Nat} (hx : a.eval x = .pointer (some ⟨b, 0, none⟩)) {vs : List Value} (hy : a.eval y = .agg vs.toArray) (hl : vs.length = n) (h1 : ∀ v ∈ vs, v.oneCell' = true)
    {us : List Value} (hlu : us.length = n) (hB : Blk w b us.toArray)
    (h : ∀ w', Blk w' b vs.toArray → Mod [b] w w' → K (a.put op.dst undef) w') : op.wp P a w K Q := by
  obtain ⟨_, h3⟩ := hT
  have ht : w.there b 0 vs.length := fun j hj => by
    rw [Nat.zero_add, hB.cell, hB.froz]
    simp; omega
  refine wp_store_mid T x y ho b 0 _ hx hy (by simpa using ht) (by simp [hl, h3]) (all_oneCell_toArray h1) ?_
  refine h _ ⟨fun o => ?_, fun o => by rw [World.frozen?_setCells]; exact hB.froz o, ?_⟩ (Mod.setCellsL b _ 0 w)
  · by_cases ho : o < vs.length
    · have := World.cell?_setCells_in b vs 0 w (fun i hi => (ht i hi).1) o ho
      rw [Nat.zero_add] at this
      simp only [List.getElem?_toArray]
      rw [List.getElem?_eq_getElem ho]
      exact this
    · rw [World.cell?_setCells_out b _ 0 w _ (fun _ _ => .inr (by simp at ho ⊢; omega)), hB.cell]
      simp at ho ⊢
      rw [List.getElem?_eq_none (by omega), List.getElem?_eq_none (by omega)]
  · exact Nat.lt_of_lt_of_le hB.lt (Mod.setCellsL b _ 0 w).size
end
theorem mText_le (s : Bs) (c most : Int) (hm : 0 ≤ most) : ((mText s c most).1.length : Int) ≤ most := by
  by_cases h : (mText s c most).2.2 = 0
  · exact (mText_eats s c most h).2.2
  · unfold mText at h ⊢
    split
    · simpa using hm
    · rename_i h1
      rw [if_neg h1] at h
      split
      · simpa using hm
      · rename_i h2
        rw [if_neg h2] at h
        exact absurd rfl h
theorem rdT_at {s a b : Bs} {n : Nat} {s1 s2 s3 : Bs} {c1 c2 c3 : Int} {h : Hd} {l : List (Bs × Int)} {e f : Int} (e1 : mText s 0 65536 = (a, s1, c1)) (e2 : mText s1 c1 65536 = (b, s2, c2)) (e3 : mNum s2 c2 = (n, s3, c3)) (e4 : decH a = (h, e)) (e5 : decM b = (l, f)) :
    rdT s = ⟨⟨h, l, n⟩, s3, c3, e, f⟩ := by
  unfold rdT
  simp only [e1, e2, e3, e4, e5]
/-- What is trusted, in memory of its own. -/
def TRow (w : World) (base : Nat) (v : Value) (t : Tr) : Prop := ∃ sk ms, v = .agg #[.int .i64 (t.head.height), .int .i64 (t.head.epoch), .int .i64 (t.head.view), .bool t.head.last, .string ⟨List.toArray (t.head.parent)⟩, .string ⟨List.toArray (t.head.state)⟩, .string ⟨List.toArray (t.head.receipts)⟩, .string ⟨List.toArray (t.head.txs)⟩, .string ⟨List.toArray (t.head.members)⟩, .string ⟨List.toArray (t.head.next)⟩, sk, ms, .int .i64 (t.at_)] ∧ SRow w base sk t.head.skips ∧ MRow w base ms t.set
theorem Rdr.keepW {w w' : World} {p : Nat} {s : Bs} {c : Int} (h : Rdr w p s c) (hb : Below w.heap.size w w') : Rdr w' p s c := h.mod (l := []) (Mod.of_below hb) (by simp)
set_option maxRecDepth 100000 in
set_option maxHeartbeats 8000000 in
theorem tr_decode (s : Bs) (hs : s.length ≤ 9223372036854775000) (w : World) (hkt : KT w) :
    Calls Tryz.prog 12 #[.string ⟨List.toArray (s)⟩] w fun e w' => ∃ v, e = .returned (.tuple #[v, .int .i64 ((decT s).2)]) ∧ TRow w' w.heap.size v (decT s).1 ∧ Below w.heap.size w w' := by
  generalize hR : decT s = R
  have HR := Lib.hid hR
  clear hR
  have hz0 : Blk (w.alloc (.cells #[.int .i64 (0), .int .i64 (0), .int .i64 (0), .bool false, .string ⟨List.toArray ([])⟩, .string ⟨List.toArray ([])⟩, .string ⟨List.toArray ([])⟩, .string ⟨List.toArray ([])⟩, .string ⟨List.toArray ([])⟩, .string ⟨List.toArray ([])⟩, .slice none 0 0, .slice none 0 0, .int .i64 (0)] 27)) w.heap.size (List.toArray [.int .i64 (0), .int .i64 (0), .int .i64 (0), .bool false, .string ⟨List.toArray ([])⟩, .string ⟨List.toArray ([])⟩, .string ⟨List.toArray ([])⟩, .string ⟨List.toArray ([])⟩, .string ⟨List.toArray ([])⟩, .string ⟨List.toArray ([])⟩, .slice none 0 0, .slice none 0 0, .int .i64 (0)]) := Blk.new _ _ _
  have hb0 : Below w.heap.size w (w.alloc (.cells #[.int .i64 (0), .int .i64 (0), .int .i64 (0), .bool false, .string ⟨List.toArray ([])⟩, .string ⟨List.toArray ([])⟩, .string ⟨List.toArray ([])⟩, .string ⟨List.toArray ([])⟩, .string ⟨List.toArray ([])⟩, .string ⟨List.toArray ([])⟩, .slice none 0 0, .slice none 0 0, .int .i64 (0)] 27)) := Below.allocS (Below.refl _ _) _
  have hs0 : (w.alloc (.cells #[.int .i64 (0), .int .i64 (0), .int .i64 (0), .bool false, .string ⟨List.toArray ([])⟩, .string ⟨List.toArray ([])⟩, .string ⟨List.toArray ([])⟩, .string ⟨List.toArray ([])⟩, .string ⟨List.toArray ([])⟩, .string ⟨List.toArray ([])⟩, .slice none 0 0, .slice none 0 0, .int .i64 (0)] 27)).heap.size = w.heap.size + 1 := by simp
  have hrn := readNew s (w.alloc (.cells #[.int .i64 (0), .int .i64 (0), .int .i64 (0), .bool false, .string ⟨List.toArray ([])⟩, .string ⟨List.toArray ([])⟩, .string ⟨List.toArray ([])⟩, .string ⟨List.toArray ([])⟩, .string ⟨List.toArray ([])⟩, .string ⟨List.toArray ([])⟩, .slice none 0 0, .slice none 0 0, .int .i64 (0)] 27))
  go_enter Tryz.func12, Tryz.ntmps12
  go_wp2_with fail
  refine hrn.mono ?_
  rintro e w1 ⟨rfl, hw1⟩
  have R0 : Rdr w1 (w.heap.size + 1) s 0 := by rw [hw1, ← hs0]; exact Rdr.new (by omega)
  have Z0 : Blk w1 w.heap.size (List.toArray [.int .i64 (0), .int .i64 (0), .int .i64 (0), .bool false, .string ⟨List.toArray ([])⟩, .string ⟨List.toArray ([])⟩, .string ⟨List.toArray ([])⟩, .string ⟨List.toArray ([])⟩, .string ⟨List.toArray ([])⟩, .string ⟨List.toArray ([])⟩, .slice none 0 0, .slice none 0 0, .int .i64 (0)]) := by rw [hw1]; exact hz0.alloc _
  have hb1 : Below w.heap.size w w1 := by rw [hw1]; exact Below.allocS hb0 _
  have hs1 : w1.heap.size = w.heap.size + 2 := by rw [hw1]; simp
  rw [hs0]
  clear hrn hw1 hz0 hb0 hs0
  generalize hp : w.heap.size + 1 = p at *
  have o1 : w.heap.size < p := by omega
  have o3 : p < w1.heap.size := by omega
  clear hs1 hp
  have h1 := rtext_any s 0 65536 p _ R0
  have l1 := mText_le s 0 65536 (by omega)
  generalize e1 : mText s 0 65536 = y at h1 l1
  obtain ⟨ab, s1, c1⟩ := y
  have E1 := Lib.hid e1
  clear e1
  simp only at h1 l1
  go_wp2_with fail
  refine h1.mono ?_
  rintro e w2 ⟨rfl, R1, m1⟩
  have Z1 := Z0.mod m1 (by simp; omega)
  have hb2 := Below.mod hb1 m1 hb1.size (by simp; omega)
  have o4 : p < w2.heap.size := R1.lt
  clear h1 m1 R0 Z0 hb1 o3
  have h2 := hd_decode ab (by omega) w2
  generalize e4 : decH ab = y at h2
  obtain ⟨⟨a1, a2, a3, lb, pa, st, rc, tx, me, ne, K⟩, ce⟩ := y
  have E4 := Lib.hid e4
  clear e4
  simp only at h2
  go_wp2_with fail
  refine h2.mono ?_
  rintro e w3 ⟨_, rfl, ⟨sk, rfl, hsk⟩, hb⟩
  simp only at hsk ⊢
  obtain ⟨ka, kc, rfl⟩ := hsk.form
  have R2 := R1.keepW hb
  have Z2 := Z1.keep hb
  have hb3 := hb2.trans (hb.mono hb2.size)
  have o5 := Nat.lt_of_lt_of_le o4 hb.size
  have hskb : SRow w3 w2.heap.size (.slice ka K.length kc) K := hsk
  have o6 := hb.size
  clear h2 hb R1 Z1 hb2 hsk
  have h3 := fun W (h : Rdr W p s1 c1) => rtext_any s1 c1 65536 p W h
  have l2 := mText_le s1 c1 65536 (by omega)
  generalize e2 : mText s1 c1 65536 = y at h3 l2
  obtain ⟨bb, s2, c2⟩ := y
  have E2 := Lib.hid e2
  clear e2
  simp only at h3 l2
  go_wp2_with (first | (refine wpList_rowStore row_head rfl rfl (.tmp 5) (.tmp 16) rfl rfl rfl (vs := [.int .i64 (a1), .int .i64 (a2), .int .i64 (a3), .bool lb, .string ⟨List.toArray (pa)⟩, .string ⟨List.toArray (st)⟩, .string ⟨List.toArray (rc)⟩, .string ⟨List.toArray (tx)⟩, .string ⟨List.toArray (me)⟩, .string ⟨List.toArray (ne)⟩, .slice ka K.length kc]) rfl (by simp [Value.oneCell']) (us := [.int .i64 (0), .int .i64 (0), .int .i64 (0), .bool false, .string ⟨List.toArray ([])⟩, .string ⟨List.toArray ([])⟩, .string ⟨List.toArray ([])⟩, .string ⟨List.toArray ([])⟩, .string ⟨List.toArray ([])⟩, .string ⟨List.toArray ([])⟩, .slice none 0 0]) rfl (Blk.new' (by simp)) ?_; intro w4 N4 m4))
  have hbm : Below w3.heap.size w3 w4 := Below.mod (Below.allocS (Below.refl _ _) _) m4 (by simp) (by simp)
  have R3 := R2.keepW hbm
  have Z3 := Z2.keep hbm
  have hsk4 := hskb.keep hbm
  have hb4 := hb3.trans (hbm.mono hb3.size)
  refine (h3 _ R3).mono ?_
  rintro e w5 ⟨rfl, R4, m5⟩
  have Z4 := Z3.mod m5 (by simp; omega)
  have N5 := N4.mod m5 (by simp; omega)
  have hsk5 := hsk4.mod m5 (by omega)
  have hb5 := Below.mod hb4 m5 hb4.size (by simp; omega)
  have o7 : p < w5.heap.size := R4.lt
  have o8 := N5.lt
  clear h3 hbm m4 m5 R2 R3 Z2 Z3 hsk4 hskb hb3 hb4 N4
  have h4 := mdecode_any bb (by omega) w5
  generalize e5 : decM bb = y at h4
  obtain ⟨L, cf⟩ := y
  have E5 := Lib.hid e5
  clear e5
  simp only at h4
  go_wp2_with fail
  refine h4.mono ?_
  rintro e w6 ⟨ms, rfl, hms, hb⟩
  obtain ⟨mb, mc, rfl⟩ := hms.ms.form
  have R5 := R4.keepW hb
  have Z5 := Z4.keep hb
  have N6 := N5.keep hb
  have hsk6 := hsk5.keep hb
  have hb6 := hb5.trans (hb.mono hb5.size)
  have o9 := hb.size
  clear h4 hb R4 Z4 N5 hsk5 hb5
  have h5 := fun W (h : Rdr W p s2 c2) => rnum_any s2 c2 p W h
  generalize e3 : mNum s2 c2 = y at h5
  obtain ⟨n, s3, c3⟩ := y
  have E3 := Lib.hid e3
  clear e3
  simp only at h5
  go_wp2_with fail
  refine wpH_startM [p] (by kernel_rfl) (fun hS => ?_)
  have hRc := R5.drew
  refine wpH_row row_head 0 (oi := { dst := some 24, op := Op.load 24 (Operand.tmp 5), type := 24, pos := "trust.go:37", after := #[], guard := none }) rfl (by kernel_rfl) (by kernel_rfl) (by kernel_rfl) (by rfl) hS (vs := [.int .i64 (a1), .int .i64 (a2), .int .i64 (a3), .bool lb, .string ⟨List.toArray (pa)⟩, .string ⟨List.toArray (st)⟩, .string ⟨List.toArray (rc)⟩, .string ⟨List.toArray (tx)⟩, .string ⟨List.toArray (me)⟩, .string ⟨List.toArray (ne)⟩, .slice ka K.length kc]) (fun _ _ _ h => h) (.tmp 5) rfl rfl (rfl) (fun w hb2 => N6.mod hb2 (by simp; omega)) ?_
  try simp only [Act.put, List.setIfInBounds_toArray, List.set_cons_zero, List.set_cons_succ]
  (refine wpH_pure 1 ?_ (oi := { dst := some 25, op := Op.move (Operand.tmp 7), type := 25, pos := "trust.go:37", after := #[], guard := none }) rfl (by kernel_rfl) (by kernel_rfl) (by kernel_rfl) (by rfl) hS (fun _ _ _ h => h) ?_ ?_; rotate_left; focus (intro w; go_simp; try with_reducible rfl))
  try simp only [Act.put, List.setIfInBounds_toArray, List.set_cons_zero, List.set_cons_succ]
  (refine wpH_pure 2 ?_ (oi := { dst := some 26, op := Op.move (Operand.tmp 4), type := 96, pos := "trust.go:37", after := #[], guard := none }) rfl (by kernel_rfl) (by kernel_rfl) (by kernel_rfl) (by rfl) hS (fun _ _ _ h => h) ?_ ?_; rotate_left; focus (intro w; go_simp; try with_reducible rfl))
  try simp only [Act.put, List.setIfInBounds_toArray, List.set_cons_zero, List.set_cons_succ]
  refine wpAnyH_all (rs := [3, 5]) (by kernel_rfl) (by simp) (fun jj hjj => ?_)
  simp only [List.mem_cons, List.not_mem_nil, or_false] at hjj
  rcases hjj with rfl | rfl
  refine wpO_call (oi := { dst := some 27, op := Op.call { callee := Callee.value (Operand.func 57), args := #[Operand.tmp 26], argTypes := #[96] }, type := 3, pos := "trust.go:37", after := #[{ on := 2, ground := Ground.data }], guard := none }) rfl (by rfl) (h5 _ hRc) ?_ ?_
  · (go_simp; try rfl)
  rintro e w' ⟨rfl, hR7, hm7⟩
  refine ⟨_, rfl, hS.trans hm7, ?_⟩
  replace hS := hS.trans hm7
  try replace K9 := K9.mod hm7 (by simp; omega)
  try simp only [Act.put, List.setIfInBounds_toArray, List.set_cons_zero, List.set_cons_succ]
  refine wpH_load 4 (.agg (List.toArray [.int .i64 (a1), .int .i64 (a2), .int .i64 (a3), .bool lb, .string ⟨List.toArray (pa)⟩, .string ⟨List.toArray (st)⟩, .string ⟨List.toArray (rc)⟩, .string ⟨List.toArray (tx)⟩, .string ⟨List.toArray (me)⟩, .string ⟨List.toArray (ne)⟩, .slice ka K.length kc, .slice mb L.length mc, .int .i64 ((n : Nat))])) (oi := { dst := some 28, op := Op.build 27 #[(0, Operand.tmp 24), (1, Operand.tmp 25), (2, Operand.tmp 27)], type := 27, pos := "trust.go:37", after := #[{ on := 0, ground := Ground.data }, { on := 1, ground := Ground.data }, { on := 3, ground := Ground.data }], guard := none }) rfl (by kernel_rfl) (by kernel_rfl) (by kernel_rfl) (by rfl) hS (fun _ _ _ h => h) (fun w hb2 => (by go_simp; try rfl)) ?_
  try simp only [Act.put, List.setIfInBounds_toArray, List.set_cons_zero, List.set_cons_succ]
  refine wpH_op 5 (oi := { dst := some 9, op := Op.alloc 27, type := 0, pos := "trust.go:37", after := #[], guard := none }) rfl (by kernel_rfl) (by rfl) ?_
  refine wp_allocK 27 rfl (List.toArray [.int .i64 (0), .int .i64 (0), .int .i64 (0), .bool false, .string ⟨List.toArray ([])⟩, .string ⟨List.toArray ([])⟩, .string ⟨List.toArray ([])⟩, .string ⟨List.toArray ([])⟩, .string ⟨List.toArray ([])⟩, .string ⟨List.toArray ([])⟩, .slice none 0 0, .slice none 0 0, .int .i64 (0)]) (fun w => by go_simp; try rfl) (fun k9 W9 hk9 K9 hbk9 => ?_)
  have hge9 := hS.size
  refine hold_and (hS.trans (Mod.of_below hbk9)) (fun hS => ?_)
  try replace hR7 := hR7.keepW hbk9
  try replace hRc := hRc.keepW hbk9
  try simp only [Act.put, List.setIfInBounds_toArray, List.set_cons_zero, List.set_cons_succ]
  refine wpH_op 6 (oi := { dst := none, op := Op.store 27 (Operand.tmp 9) (Operand.tmp 28), type := 0, pos := "trust.go:37", after := #[{ on := 5, ground := Ground.data }, { on := 4, ground := Ground.data }, { on := 3, ground := Ground.chain }, { on := 0, ground := Ground.phase }, { on := 1, ground := Ground.phase }, { on := 2, ground := Ground.phase }, { on := 3, ground := Ground.phase }, { on := 4, ground := Ground.phase }, { on := 5, ground := Ground.phase }], guard := none }) rfl (by kernel_rfl) (by rfl) ?_
  refine wp_rowStore row_trust (.tmp 9) (.tmp 28) rfl rfl (vs := [.int .i64 (a1), .int .i64 (a2), .int .i64 (a3), .bool lb, .string ⟨List.toArray (pa)⟩, .string ⟨List.toArray (st)⟩, .string ⟨List.toArray (rc)⟩, .string ⟨List.toArray (tx)⟩, .string ⟨List.toArray (me)⟩, .string ⟨List.toArray (ne)⟩, .slice ka K.length kc, .slice mb L.length mc, .int .i64 ((n : Nat))]) rfl rfl (by simp [Value.oneCell']) (us := [.int .i64 (0), .int .i64 (0), .int .i64 (0), .bool false, .string ⟨List.toArray ([])⟩, .string ⟨List.toArray ([])⟩, .string ⟨List.toArray ([])⟩, .string ⟨List.toArray ([])⟩, .string ⟨List.toArray ([])⟩, .string ⟨List.toArray ([])⟩, .slice none 0 0, .slice none 0 0, .int .i64 (0)]) rfl K9 ?_
  rintro w10 K10 m10
  refine hold_and (hS.call m10 (by intro x hx; simp at hx; subst hx; right; omega)) (fun hS => ?_)
  have hR10 := hR7.mod m10 (by simp; omega)
  try simp only [Act.put, List.setIfInBounds_toArray, List.set_cons_zero, List.set_cons_succ]
  refine wpAnyH_done (by kernel_rfl) ?_ _
  rotate_left
  refine wpO_op (oi := { dst := some 9, op := Op.alloc 27, type := 0, pos := "trust.go:37", after := #[], guard := none }) rfl (by rfl) ?_
  refine wp_allocK 27 rfl (List.toArray [.int .i64 (0), .int .i64 (0), .int .i64 (0), .bool false, .string ⟨List.toArray ([])⟩, .string ⟨List.toArray ([])⟩, .string ⟨List.toArray ([])⟩, .string ⟨List.toArray ([])⟩, .string ⟨List.toArray ([])⟩, .string ⟨List.toArray ([])⟩, .slice none 0 0, .slice none 0 0, .int .i64 (0)]) (fun w => by go_simp; try rfl) (fun k9 W9 hk9 K9 hbk9 => ?_)
  have hge9 := hS.size
  refine hold_and (hS.trans (Mod.of_below hbk9)) (fun hS => ?_)
  try replace hR7 := hR7.keepW hbk9
  try replace hRc := hRc.keepW hbk9
  try simp only [Act.put, List.setIfInBounds_toArray, List.set_cons_zero, List.set_cons_succ]
  refine wpH_call 3 (oi := { dst := some 27, op := Op.call { callee := Callee.value (Operand.func 57), args := #[Operand.tmp 26], argTypes := #[96] }, type := 3, pos := "trust.go:37", after := #[{ on := 2, ground := Ground.data }], guard := none }) rfl (by kernel_rfl) (by rfl) (h5 _ hRc) ?_ ?_
  · (go_simp; try rfl)
  rintro e w' ⟨rfl, hR7, hm7⟩
  refine ⟨_, rfl, hS.trans hm7, ?_⟩
  replace hS := hS.trans hm7
  try replace K9 := K9.mod hm7 (by simp; omega)
  try simp only [Act.put, List.setIfInBounds_toArray, List.set_cons_zero, List.set_cons_succ]
  refine wpH_load 4 (.agg (List.toArray [.int .i64 (a1), .int .i64 (a2), .int .i64 (a3), .bool lb, .string ⟨List.toArray (pa)⟩, .string ⟨List.toArray (st)⟩, .string ⟨List.toArray (rc)⟩, .string ⟨List.toArray (tx)⟩, .string ⟨List.toArray (me)⟩, .string ⟨List.toArray (ne)⟩, .slice ka K.length kc, .slice mb L.length mc, .int .i64 ((n : Nat))])) (oi := { dst := some 28, op := Op.build 27 #[(0, Operand.tmp 24), (1, Operand.tmp 25), (2, Operand.tmp 27)], type := 27, pos := "trust.go:37", after := #[{ on := 0, ground := Ground.data }, { on := 1, ground := Ground.data }, { on := 3, ground := Ground.data }], guard := none }) rfl (by kernel_rfl) (by kernel_rfl) (by kernel_rfl) (by rfl) hS (fun _ _ _ h => h) (fun w hb2 => (by go_simp; try rfl)) ?_
  try simp only [Act.put, List.setIfInBounds_toArray, List.set_cons_zero, List.set_cons_succ]
  refine wpH_op 6 (oi := { dst := none, op := Op.store 27 (Operand.tmp 9) (Operand.tmp 28), type := 0, pos := "trust.go:37", after := #[{ on := 5, ground := Ground.data }, { on := 4, ground := Ground.data }, { on := 3, ground := Ground.chain }, { on := 0, ground := Ground.phase }, { on := 1, ground := Ground.phase }, { on := 2, ground := Ground.phase }, { on := 3, ground := Ground.phase }, { on := 4, ground := Ground.phase }, { on := 5, ground := Ground.phase }], guard := none }) rfl (by kernel_rfl) (by rfl) ?_
  refine wp_rowStore row_trust (.tmp 9) (.tmp 28) rfl rfl (vs := [.int .i64 (a1), .int .i64 (a2), .int .i64 (a3), .bool lb, .string ⟨List.toArray (pa)⟩, .string ⟨List.toArray (st)⟩, .string ⟨List.toArray (rc)⟩, .string ⟨List.toArray (tx)⟩, .string ⟨List.toArray (me)⟩, .string ⟨List.toArray (ne)⟩, .slice ka K.length kc, .slice mb L.length mc, .int .i64 ((n : Nat))]) rfl rfl (by simp [Value.oneCell']) (us := [.int .i64 (0), .int .i64 (0), .int .i64 (0), .bool false, .string ⟨List.toArray ([])⟩, .string ⟨List.toArray ([])⟩, .string ⟨List.toArray ([])⟩, .string ⟨List.toArray ([])⟩, .string ⟨List.toArray ([])⟩, .string ⟨List.toArray ([])⟩, .slice none 0 0, .slice none 0 0, .int .i64 (0)]) rfl K9 ?_
  rintro w10 K10 m10
  refine hold_and (hS.call m10 (by intro x hx; simp at hx; subst hx; right; omega)) (fun hS => ?_)
  have hR10 := hR7.mod m10 (by simp; omega)
  try simp only [Act.put, List.setIfInBounds_toArray, List.set_cons_zero, List.set_cons_succ]
  refine wpAnyH_done (by kernel_rfl) ?_ _
  rotate_left
  all_goals
    have Z10 := Z5.mod hS (by simp; omega)
    have hsk10 := hsk6.mod hS (by omega)
    have hms10 := hms.mod hS (by omega)
    have hb10 := Below.mod hb6 hS hb6.size (by simp; omega)
    have hen := rend_any s3 c3 p w10 hR10
    have HRD : Hid (R = if mEnd s3 c3 = 0 ∧ ce = 0 ∧ cf = 0 ∧ fineT ⟨⟨a1, a2, a3, lb, pa, st, rc, tx, me, ne, K⟩, L, n⟩ = true then (⟨⟨a1, a2, a3, lb, pa, st, rc, tx, me, ne, K⟩, L, n⟩, 0) else (trZ, 3)) := Lib.hid (by
      rw [← HR.out]
      unfold decT
      rw [rdT_at E1.out E2.out E3.out E4.out E5.out])
    have o10 : w.heap.size ≤ w2.heap.size := by omega
    have o11 : w.heap.size ≤ w5.heap.size := by omega
    clear hS m10 hR10 hR7 Z5 hsk6 hms hb6 E1 E2 E3 E4 E5 HR h5 K9 N6 R5
    generalize mEnd s3 c3 = cod at *
    go_wp2_with fail
    refine hen.mono ?_
    rintro e w11 ⟨rfl, m11⟩
    have Z11 : Blk w11 w.heap.size (List.toArray [.int .i64 (0), .int .i64 (0), .int .i64 (0), .bool false, .string ⟨List.toArray ([])⟩, .string ⟨List.toArray ([])⟩, .string ⟨List.toArray ([])⟩, .string ⟨List.toArray ([])⟩, .string ⟨List.toArray ([])⟩, .string ⟨List.toArray ([])⟩, .slice none 0 0, .slice none 0 0, .int .i64 (0)]) := Z10.mod m11 (by simp; omega)
    have K11 := K10.mod m11 (by simp; omega)
    have hsk11 := hsk10.mod m11 (by omega)
    have hms11 := hms10.mod m11 (by omega)
    have hb11 := Below.mod hb10 m11 hb10.size (by simp; omega)
    clear hen m11 Z10 K10 hsk10 hms10 hb10
    by_cases h0 : cod = 0
    case neg =>
      have g1 : (cod == 0) = false := by simpa using h0
      have g2 : (cod != 0) = true := by simpa using h0
      have HRE : Hid (R = (trZ, 3)) := Lib.hid (by rw [HRD.out, if_neg (fun h => h0 h.1)])
      clear h0 HRD
      go_wp2_with (first | (refine wpList_rowStore row_trust rfl rfl (.tmp 2) (.tmp 45) rfl rfl rfl (vs := [.int .i64 (0), .int .i64 (0), .int .i64 (0), .bool false, .string ⟨List.toArray ([])⟩, .string ⟨List.toArray ([])⟩, .string ⟨List.toArray ([])⟩, .string ⟨List.toArray ([])⟩, .string ⟨List.toArray ([])⟩, .string ⟨List.toArray ([])⟩, .slice none 0 0, .slice none 0 0, .int .i64 (0)]) rfl (by simp [Value.oneCell']) (us := [.int .i64 (0), .int .i64 (0), .int .i64 (0), .bool false, .string ⟨List.toArray ([])⟩, .string ⟨List.toArray ([])⟩, .string ⟨List.toArray ([])⟩, .string ⟨List.toArray ([])⟩, .string ⟨List.toArray ([])⟩, .string ⟨List.toArray ([])⟩, .slice none 0 0, .slice none 0 0, .int .i64 (0)]) rfl Z11 ?_; intro w15 N15 m15))
      have hld := row_loadVar row_trust w15 (vs := [.int .i64 (0), .int .i64 (0), .int .i64 (0), .bool false, .string ⟨List.toArray ([])⟩, .string ⟨List.toArray ([])⟩, .string ⟨List.toArray ([])⟩, .string ⟨List.toArray ([])⟩, .string ⟨List.toArray ([])⟩, .string ⟨List.toArray ([])⟩, .slice none 0 0, .slice none 0 0, .int .i64 (0)]) rfl N15
      refine bodyPost_ret (results_cell_tmp2 rfl _ _ _ _ rfl hld) rfl ?_
      rw [HRE.out]
      exact ⟨_, rfl, ⟨_, _, rfl, SRow.nil _ _, MRow.nil _ _⟩, Below.mod hb11 m15 hb11.size (by simp)⟩
    case pos =>
    subst h0
    by_cases h0 : ce = 0
    case neg =>
      have g1 : (ce == 0) = false := by simpa using h0
      have g2 : (ce != 0) = true := by simpa using h0
      have HRE : Hid (R = (trZ, 3)) := Lib.hid (by rw [HRD.out, if_neg (fun h => h0 h.2.1)])
      clear h0 HRD
      go_wp2_with (first | (refine wpList_rowStore row_trust rfl rfl (.tmp 2) (.tmp 45) rfl rfl rfl (vs := [.int .i64 (0), .int .i64 (0), .int .i64 (0), .bool false, .string ⟨List.toArray ([])⟩, .string ⟨List.toArray ([])⟩, .string ⟨List.toArray ([])⟩, .string ⟨List.toArray ([])⟩, .string ⟨List.toArray ([])⟩, .string ⟨List.toArray ([])⟩, .slice none 0 0, .slice none 0 0, .int .i64 (0)]) rfl (by simp [Value.oneCell']) (us := [.int .i64 (0), .int .i64 (0), .int .i64 (0), .bool false, .string ⟨List.toArray ([])⟩, .string ⟨List.toArray ([])⟩, .string ⟨List.toArray ([])⟩, .string ⟨List.toArray ([])⟩, .string ⟨List.toArray ([])⟩, .string ⟨List.toArray ([])⟩, .slice none 0 0, .slice none 0 0, .int .i64 (0)]) rfl Z11 ?_; intro w15 N15 m15))
      have hld := row_loadVar row_trust w15 (vs := [.int .i64 (0), .int .i64 (0), .int .i64 (0), .bool false, .string ⟨List.toArray ([])⟩, .string ⟨List.toArray ([])⟩, .string ⟨List.toArray ([])⟩, .string ⟨List.toArray ([])⟩, .string ⟨List.toArray ([])⟩, .string ⟨List.toArray ([])⟩, .slice none 0 0, .slice none 0 0, .int .i64 (0)]) rfl N15
      refine bodyPost_ret (results_cell_tmp2 rfl _ _ _ _ rfl hld) rfl ?_
      rw [HRE.out]
      exact ⟨_, rfl, ⟨_, _, rfl, SRow.nil _ _, MRow.nil _ _⟩, Below.mod hb11 m15 hb11.size (by simp)⟩
    case pos =>
    subst h0
    by_cases h0 : cf = 0
    case neg =>
      have g1 : (cf == 0) = false := by simpa using h0
      have g2 : (cf != 0) = true := by simpa using h0
      have HRE : Hid (R = (trZ, 3)) := Lib.hid (by rw [HRD.out, if_neg (fun h => h0 h.2.2.1)])
      clear h0 HRD
      go_wp2_with (first | (refine wpList_rowStore row_trust rfl rfl (.tmp 2) (.tmp 45) rfl rfl rfl (vs := [.int .i64 (0), .int .i64 (0), .int .i64 (0), .bool false, .string ⟨List.toArray ([])⟩, .string ⟨List.toArray ([])⟩, .string ⟨List.toArray ([])⟩, .string ⟨List.toArray ([])⟩, .string ⟨List.toArray ([])⟩, .string ⟨List.toArray ([])⟩, .slice none 0 0, .slice none 0 0, .int .i64 (0)]) rfl (by simp [Value.oneCell']) (us := [.int .i64 (0), .int .i64 (0), .int .i64 (0), .bool false, .string ⟨List.toArray ([])⟩, .string ⟨List.toArray ([])⟩, .string ⟨List.toArray ([])⟩, .string ⟨List.toArray ([])⟩, .string ⟨List.toArray ([])⟩, .string ⟨List.toArray ([])⟩, .slice none 0 0, .slice none 0 0, .int .i64 (0)]) rfl Z11 ?_; intro w15 N15 m15))
      have hld := row_loadVar row_trust w15 (vs := [.int .i64 (0), .int .i64 (0), .int .i64 (0), .bool false, .string ⟨List.toArray ([])⟩, .string ⟨List.toArray ([])⟩, .string ⟨List.toArray ([])⟩, .string ⟨List.toArray ([])⟩, .string ⟨List.toArray ([])⟩, .string ⟨List.toArray ([])⟩, .slice none 0 0, .slice none 0 0, .int .i64 (0)]) rfl N15
      refine bodyPost_ret (results_cell_tmp2 rfl _ _ _ _ rfl hld) rfl ?_
      rw [HRE.out]
      exact ⟨_, rfl, ⟨_, _, rfl, SRow.nil _ _, MRow.nil _ _⟩, Below.mod hb11 m15 hb11.size (by simp)⟩
    case pos =>
    subst h0
    have hck := tr_check a1 a2 a3 lb pa st rc tx me ne K (.slice ka K.length kc) L (.slice mb L.length mc) (n : Int) w11 hsk11.ss hms11.ms (hkt.keep hb11)
    cases hf : fineT ⟨⟨a1, a2, a3, lb, pa, st, rc, tx, me, ne, K⟩, L, n⟩
    · rw [hf, show codeT false = 3 from rfl] at hck
      have HRE : Hid (R = (trZ, 3)) := Lib.hid (by rw [HRD.out, if_neg (fun h => by rw [hf] at h; exact absurd h.2.2.2 (by decide))])
      clear hf HRD
      go_wp2_with (first | (refine wpList_rowLoadG row_trust ?hw (.tmp 9) rfl rfl (vs := [.int .i64 (a1), .int .i64 (a2), .int .i64 (a3), .bool lb, .string ⟨List.toArray (pa)⟩, .string ⟨List.toArray (st)⟩, .string ⟨List.toArray (rc)⟩, .string ⟨List.toArray (tx)⟩, .string ⟨List.toArray (me)⟩, .string ⟨List.toArray (ne)⟩, .slice ka K.length kc, .slice mb L.length mc, .int .i64 ((n : Nat))]) rfl K11 ?_; (case hw => rfl)))
      refine hck.mono ?_
      rintro e w12 ⟨rfl, hb⟩
      have Z12 := Z11.keep hb
      have hb12 := hb11.trans (hb.mono hb11.size)
      clear hck hb hb11 Z11 K11 hsk11 hms11
      go_wp2_with (first | (refine wpList_rowStore row_trust rfl rfl (.tmp 2) (.tmp 45) rfl rfl rfl (vs := [.int .i64 (0), .int .i64 (0), .int .i64 (0), .bool false, .string ⟨List.toArray ([])⟩, .string ⟨List.toArray ([])⟩, .string ⟨List.toArray ([])⟩, .string ⟨List.toArray ([])⟩, .string ⟨List.toArray ([])⟩, .string ⟨List.toArray ([])⟩, .slice none 0 0, .slice none 0 0, .int .i64 (0)]) rfl (by simp [Value.oneCell']) (us := [.int .i64 (0), .int .i64 (0), .int .i64 (0), .bool false, .string ⟨List.toArray ([])⟩, .string ⟨List.toArray ([])⟩, .string ⟨List.toArray ([])⟩, .string ⟨List.toArray ([])⟩, .string ⟨List.toArray ([])⟩, .string ⟨List.toArray ([])⟩, .slice none 0 0, .slice none 0 0, .int .i64 (0)]) rfl Z12 ?_; intro w15 N15 m15))
      have hld := row_loadVar row_trust w15 (vs := [.int .i64 (0), .int .i64 (0), .int .i64 (0), .bool false, .string ⟨List.toArray ([])⟩, .string ⟨List.toArray ([])⟩, .string ⟨List.toArray ([])⟩, .string ⟨List.toArray ([])⟩, .string ⟨List.toArray ([])⟩, .string ⟨List.toArray ([])⟩, .slice none 0 0, .slice none 0 0, .int .i64 (0)]) rfl N15
      refine bodyPost_ret (results_cell_tmp2 rfl _ _ _ _ rfl hld) rfl ?_
      rw [HRE.out]
      exact ⟨_, rfl, ⟨_, _, rfl, SRow.nil _ _, MRow.nil _ _⟩, Below.mod hb12 m15 hb12.size (by simp)⟩
    · rw [hf, show codeT true = 0 from rfl] at hck
      have HRE : Hid (R = (⟨⟨a1, a2, a3, lb, pa, st, rc, tx, me, ne, K⟩, L, n⟩, 0)) := Lib.hid (by rw [HRD.out, if_pos ⟨rfl, rfl, rfl, hf⟩])
      clear hf HRD
      go_wp2_with (first | (refine wpList_rowLoadG row_trust ?hw (.tmp 9) rfl rfl (vs := [.int .i64 (a1), .int .i64 (a2), .int .i64 (a3), .bool lb, .string ⟨List.toArray (pa)⟩, .string ⟨List.toArray (st)⟩, .string ⟨List.toArray (rc)⟩, .string ⟨List.toArray (tx)⟩, .string ⟨List.toArray (me)⟩, .string ⟨List.toArray (ne)⟩, .slice ka K.length kc, .slice mb L.length mc, .int .i64 ((n : Nat))]) rfl K11 ?_; (case hw => rfl)))
      refine hck.mono ?_
      rintro e w12 ⟨rfl, hb⟩
      have Z12 := Z11.keep hb
      have K12 := K11.keep hb
      have hsk12 := hsk11.keep hb
      have hms12 := hms11.keep hb
      have hb12 := hb11.trans (hb.mono hb11.size)
      clear hck hb hb11 Z11 K11 hsk11 hms11
      go_wp2_with (first | (refine wpList_rowLoad row_trust rfl (.tmp 9) rfl rfl (vs := [.int .i64 (a1), .int .i64 (a2), .int .i64 (a3), .bool lb, .string ⟨List.toArray (pa)⟩, .string ⟨List.toArray (st)⟩, .string ⟨List.toArray (rc)⟩, .string ⟨List.toArray (tx)⟩, .string ⟨List.toArray (me)⟩, .string ⟨List.toArray (ne)⟩, .slice ka K.length kc, .slice mb L.length mc, .int .i64 ((n : Nat))]) rfl K12 ?_) | (refine wpList_rowStore row_trust rfl rfl (.tmp 2) (.tmp 46) rfl rfl rfl (vs := [.int .i64 (a1), .int .i64 (a2), .int .i64 (a3), .bool lb, .string ⟨List.toArray (pa)⟩, .string ⟨List.toArray (st)⟩, .string ⟨List.toArray (rc)⟩, .string ⟨List.toArray (tx)⟩, .string ⟨List.toArray (me)⟩, .string ⟨List.toArray (ne)⟩, .slice ka K.length kc, .slice mb L.length mc, .int .i64 ((n : Nat))]) rfl (by simp [Value.oneCell']) (us := [.int .i64 (0), .int .i64 (0), .int .i64 (0), .bool false, .string ⟨List.toArray ([])⟩, .string ⟨List.toArray ([])⟩, .string ⟨List.toArray ([])⟩, .string ⟨List.toArray ([])⟩, .string ⟨List.toArray ([])⟩, .string ⟨List.toArray ([])⟩, .slice none 0 0, .slice none 0 0, .int .i64 (0)]) rfl Z12 ?_; intro w15 N15 m15))
      have hld := row_loadVar row_trust w15 (vs := [.int .i64 (a1), .int .i64 (a2), .int .i64 (a3), .bool lb, .string ⟨List.toArray (pa)⟩, .string ⟨List.toArray (st)⟩, .string ⟨List.toArray (rc)⟩, .string ⟨List.toArray (tx)⟩, .string ⟨List.toArray (me)⟩, .string ⟨List.toArray (ne)⟩, .slice ka K.length kc, .slice mb L.length mc, .int .i64 ((n : Nat))]) rfl N15
      refine bodyPost_ret (results_cell_tmp2 rfl _ _ _ _ rfl hld) rfl ?_
      rw [HRE.out]
      exact ⟨_, rfl, ⟨_, _, rfl, SRow.low (hsk12.mod m15 (by omega)) o10, MRow.low (hms12.mod m15 (by omega)) o11⟩, Below.mod hb12 m15 hb12.size (by simp)⟩
end Go.Proofs.YthgjdaomcpinaaaGreatDoor

/- Have two that are trusted one header? Is one stale? The program's walks. -/
set_option linter.unusedSimpArgs false
set_option linter.unusedVariables false
namespace Go.Proofs.YthgjdaomcpinaaaGreatDoor
open Go.RowKit Go.Shelf Pl

/-- v reads as what is trusted. -/
def TV (w : World) (v : Value) (t : Tr) : Prop := ∃ sk ms, v = .agg #[.int .i64 (t.head.height), .int .i64 (t.head.epoch), .int .i64 (t.head.view), .bool t.head.last, .string ⟨List.toArray (t.head.parent)⟩, .string ⟨List.toArray (t.head.state)⟩, .string ⟨List.toArray (t.head.receipts)⟩, .string ⟨List.toArray (t.head.txs)⟩, .string ⟨List.toArray (t.head.members)⟩, .string ⟨List.toArray (t.head.next)⟩, sk, ms, .int .i64 (t.at_)] ∧ SS w sk t.head.skips ∧ MS w ms t.set
theorem TRow.tv {w : World} {base : Nat} {v : Value} {t : Tr} (h : TRow w base v t) : TV w v t := by
  obtain ⟨sk, ms, h1, h2, h3⟩ := h
  exact ⟨sk, ms, h1, h2.ss, h3.ms⟩
theorem TV.keep {W w : World} {v : Value} {t : Tr} (h : TV W v t) (hb : Below W.heap.size W w) : TV w v t := by
  obtain ⟨sk, ms, h1, h2, h3⟩ := h
  exact ⟨sk, ms, h1, h2.keep hb, h3.keep hb⟩
set_option maxRecDepth 100000 in
set_option maxHeartbeats 2000000 in
theorem tr_same (u v : Value) (t r : Tr) (w : World) (hu : TV w u t) (hv : TV w v r) :
    Calls Tryz.prog 71 #[u, v] w fun e w' => e = .returned (.bool (decide ((encHR t.head).1 = (encHR r.head).1))) ∧ Below w.heap.size w w' := by
  obtain ⟨⟨a1, a2, a3, lb, pa, st, rc, tx, me, ne, K⟩, L, ta⟩ := t
  obtain ⟨⟨d1, d2, d3, eb, pb, su, rd, ty, mf, nf, K2⟩, L2, tb⟩ := r
  obtain ⟨sk, ms, rfl, h1, h2⟩ := hu
  obtain ⟨sk2, ms2, rfl, h3, h4⟩ := hv
  have B0 : Blk (w.alloc (.cells #[.int .i64 (a1), .int .i64 (a2), .int .i64 (a3), .bool lb, .string ⟨List.toArray (pa)⟩, .string ⟨List.toArray (st)⟩, .string ⟨List.toArray (rc)⟩, .string ⟨List.toArray (tx)⟩, .string ⟨List.toArray (me)⟩, .string ⟨List.toArray (ne)⟩, sk, ms, .int .i64 (ta)] 27)) w.heap.size #[.int .i64 (a1), .int .i64 (a2), .int .i64 (a3), .bool lb, .string ⟨List.toArray (pa)⟩, .string ⟨List.toArray (st)⟩, .string ⟨List.toArray (rc)⟩, .string ⟨List.toArray (tx)⟩, .string ⟨List.toArray (me)⟩, .string ⟨List.toArray (ne)⟩, sk, ms, .int .i64 (ta)] := Blk.new _ _ _
  have hb0 : Below w.heap.size w (w.alloc (.cells #[.int .i64 (a1), .int .i64 (a2), .int .i64 (a3), .bool lb, .string ⟨List.toArray (pa)⟩, .string ⟨List.toArray (st)⟩, .string ⟨List.toArray (rc)⟩, .string ⟨List.toArray (tx)⟩, .string ⟨List.toArray (me)⟩, .string ⟨List.toArray (ne)⟩, sk, ms, .int .i64 (ta)] 27)) := Below.allocS (Below.refl _ _) _
  have B1 := B0.alloc (.cells #[.int .i64 (d1), .int .i64 (d2), .int .i64 (d3), .bool eb, .string ⟨List.toArray (pb)⟩, .string ⟨List.toArray (su)⟩, .string ⟨List.toArray (rd)⟩, .string ⟨List.toArray (ty)⟩, .string ⟨List.toArray (mf)⟩, .string ⟨List.toArray (nf)⟩, sk2, ms2, .int .i64 (tb)] 27)
  have hb1 := Below.allocS hb0 (.cells #[.int .i64 (d1), .int .i64 (d2), .int .i64 (d3), .bool eb, .string ⟨List.toArray (pb)⟩, .string ⟨List.toArray (su)⟩, .string ⟨List.toArray (rd)⟩, .string ⟨List.toArray (ty)⟩, .string ⟨List.toArray (mf)⟩, .string ⟨List.toArray (nf)⟩, sk2, ms2, .int .i64 (tb)] 27)
  have C1 : Blk ((w.alloc (.cells #[.int .i64 (a1), .int .i64 (a2), .int .i64 (a3), .bool lb, .string ⟨List.toArray (pa)⟩, .string ⟨List.toArray (st)⟩, .string ⟨List.toArray (rc)⟩, .string ⟨List.toArray (tx)⟩, .string ⟨List.toArray (me)⟩, .string ⟨List.toArray (ne)⟩, sk, ms, .int .i64 (ta)] 27)).alloc (.cells #[.int .i64 (d1), .int .i64 (d2), .int .i64 (d3), .bool eb, .string ⟨List.toArray (pb)⟩, .string ⟨List.toArray (su)⟩, .string ⟨List.toArray (rd)⟩, .string ⟨List.toArray (ty)⟩, .string ⟨List.toArray (mf)⟩, .string ⟨List.toArray (nf)⟩, sk2, ms2, .int .i64 (tb)] 27)) (w.heap.size + 1) #[.int .i64 (d1), .int .i64 (d2), .int .i64 (d3), .bool eb, .string ⟨List.toArray (pb)⟩, .string ⟨List.toArray (su)⟩, .string ⟨List.toArray (rd)⟩, .string ⟨List.toArray (ty)⟩, .string ⟨List.toArray (mf)⟩, .string ⟨List.toArray (nf)⟩, sk2, ms2, .int .i64 (tb)] := Blk.new' (by simp)
  have q1 := fun W (hb : Below w.heap.size w W) => hd_encode a1 a2 a3 lb pa st rc tx me ne K sk W (h1.keep hb)
  have q2 := fun W (hb : Below w.heap.size w W) => hd_encode d1 d2 d3 eb pb su rd ty mf nf K2 sk2 W (h3.keep hb)
  simp only
  generalize encHR ⟨a1, a2, a3, lb, pa, st, rc, tx, me, ne, K⟩ = x at *
  generalize encHR ⟨d1, d2, d3, eb, pb, su, rd, ty, mf, nf, K2⟩ = y at *
  obtain ⟨x, xc⟩ := x
  obtain ⟨y, yc⟩ := y
  simp only at q1 q2 ⊢
  obtain ⟨b1, b2, b3⟩ := id B1
  go_enter Tryz.func71, Tryz.ntmps71
  go_wp2_with fail
  refine (q1 _ hb1).mono ?_
  rintro e w1 ⟨rfl, hb⟩
  have hb2 := hb1.trans (hb.mono hb1.size)
  have C2 := C1.keep hb
  clear b1 b2 b3 q1 hb B0 hb0 B1 C1 hb1
  obtain ⟨c1, c2, c3⟩ := id C2
  go_wp2_with fail
  refine (q2 _ hb2).mono ?_
  rintro e w2 ⟨rfl, hb⟩
  have hb3 := hb2.trans (hb.mono hb2.size)
  clear c1 c2 c3 q2 hb C2 hb2
  go_wp2_with fail
  go_ret
  exact ⟨by first | rfl | (exact ret_bool (by simp)), hb3⟩
set_option maxRecDepth 100000 in
set_option maxHeartbeats 2000000 in
theorem tr_stale (p : Nat) (m : Value) (span : Int) (jp : Value) (v : Value) (t : Tr) (now : Int) (hs : 0 ≤ span ∧ span ≤ 1099511627776) (hn : -9223372036854775808 ≤ now ∧ now ≤ 9223372036854775807) (w : World) (B : Blk w p #[m, .int .i64 (span), jp]) (hv : TV w v t) :
    Calls Tryz.prog 78 #[.pointer (some ⟨p, 0, none⟩), v, .int .i64 (now)] w fun e w' => e = .returned (.bool (decide (0 ≤ now) && decide (t.at_ ≤ now - span))) ∧ Below w.heap.size w w' := by
  obtain ⟨⟨a1, a2, a3, lb, pa, st, rc, tx, me, ne, K⟩, L, ta⟩ := t
  obtain ⟨sk, ms, rfl, h1, h2⟩ := hv
  have B0 : Blk (w.alloc (.cells #[.int .i64 (a1), .int .i64 (a2), .int .i64 (a3), .bool lb, .string ⟨List.toArray (pa)⟩, .string ⟨List.toArray (st)⟩, .string ⟨List.toArray (rc)⟩, .string ⟨List.toArray (tx)⟩, .string ⟨List.toArray (me)⟩, .string ⟨List.toArray (ne)⟩, sk, ms, .int .i64 (ta)] 27)) w.heap.size #[.int .i64 (a1), .int .i64 (a2), .int .i64 (a3), .bool lb, .string ⟨List.toArray (pa)⟩, .string ⟨List.toArray (st)⟩, .string ⟨List.toArray (rc)⟩, .string ⟨List.toArray (tx)⟩, .string ⟨List.toArray (me)⟩, .string ⟨List.toArray (ne)⟩, sk, ms, .int .i64 (ta)] := Blk.new _ _ _
  have hb0 : Below w.heap.size w (w.alloc (.cells #[.int .i64 (a1), .int .i64 (a2), .int .i64 (a3), .bool lb, .string ⟨List.toArray (pa)⟩, .string ⟨List.toArray (st)⟩, .string ⟨List.toArray (rc)⟩, .string ⟨List.toArray (tx)⟩, .string ⟨List.toArray (me)⟩, .string ⟨List.toArray (ne)⟩, sk, ms, .int .i64 (ta)] 27)) := Below.allocS (Below.refl _ _) _
  have C0 := B.alloc (.cells #[.int .i64 (a1), .int .i64 (a2), .int .i64 (a3), .bool lb, .string ⟨List.toArray (pa)⟩, .string ⟨List.toArray (st)⟩, .string ⟨List.toArray (rc)⟩, .string ⟨List.toArray (tx)⟩, .string ⟨List.toArray (me)⟩, .string ⟨List.toArray (ne)⟩, sk, ms, .int .i64 (ta)] 27)
  obtain ⟨b1, b2, b3⟩ := id B0
  obtain ⟨c1, c2, c3⟩ := id C0
  simp only
  by_cases g0 : 0 ≤ now
  · have e1 : decide (0 ≤ now) = true := by simpa using g0
    have w1 : IntKind.i64.wrap (now - span) = now - span := by rw [IntKind.wrap_i64]; omega
    rw [e1, Bool.true_and]
    clear g0 B C0 B0
    go_enter Tryz.func78, Tryz.ntmps78
    go_wp2_with fail
    go_quiet (fail)
    go_wp2_with fail
    go_ret
    exact ⟨by first | rfl | (exact ret_bool (by simp)), below_drewN hb0 _⟩
  · have e1 : decide (0 ≤ now) = false := by simpa using g0
    rw [e1, Bool.false_and]
    clear g0 B C0 B0
    go_enter Tryz.func78, Tryz.ntmps78
    go_wp2_with fail
    go_quiet (fail)
    go_wp2_with fail
    go_ret
    exact ⟨rfl, below_drewN hb0 _⟩
end Go.Proofs.YthgjdaomcpinaaaGreatDoor

/- Lists of members held against one another; spoilt. -/
set_option linter.unusedSimpArgs false
set_option linter.unusedVariables false
namespace Go.Proofs.YthgjdaomcpinaaaGreatDoor
open Go.RowKit Pl

theorem member_fields : ((Tryz.prog).fieldsOf 130).toList.map (fun f => (f.type, f.offset, f.name == "_")) = [(9, 0, false), (3, 1, false)] := by kernel_rfl
set_option maxHeartbeats 1000000 in
@[go_sem high] theorem eq_member (n : Bs) (k : Int) (n2 : Bs) (k2 : Int) (d : Nat) (w : World) :
    (Op.equalIn (d + 2) 130 (.agg #[.string ⟨List.toArray (n)⟩, .int .i64 (k)]) (.agg #[.string ⟨List.toArray (n2)⟩, .int .i64 (k2)])).run Tryz.prog w = .ok (decide (n = n2) && decide (k = k2)) w := by
  rw [run_equalIn_struct w (d + 1) 130 _ _ (by kernel_rfl) (by kernel_rfl)]
  have hf := member_fields
  generalize ((Tryz.prog).fieldsOf 130).toList = l at *
  rcases l with _ | ⟨f0, _ | ⟨f1, _ | ⟨f2, l⟩⟩⟩ <;> simp at hf
  obtain ⟨⟨a1, a2, a3⟩, ⟨b1, b2, b3⟩⟩ := hf
  have q0 : ∀ (n : Bs) (k : Int), (part 9 #[.string ⟨List.toArray (n)⟩, .int .i64 (k)] 0).run Tryz.prog w = .ok (.string ⟨List.toArray (n)⟩) w := fun n k => run_part_plain w (by simp [Program.plainKey, Tryz.underlying9]) rfl
  have q1 : ∀ (n : Bs) (k : Int), (part 3 #[.string ⟨List.toArray (n)⟩, .int .i64 (k)] 1).run Tryz.prog w = .ok (.int .i64 (k)) w := fun n k => run_part_plain w (by simp [Program.plainKey, Tryz.underlying3]) rfl
  have e0 := run_equalIn_string (P := Tryz.prog) w d 9 ⟨List.toArray n⟩ ⟨List.toArray n2⟩ Tryz.underlying9
  have e1 := run_equalIn_int (P := Tryz.prog) w d 3 .i64 .i64 k k2 Tryz.underlying3
  rw [← beq_toListBytes, str_beq] at e0
  simp only [Op.eqFields, a1, a2, b1, b2, a3, b3, ne_eq, not_false_eq_true, if_true, Sem.run_bind, q0, q1, e0, e1, Result.andThen_ok]
  by_cases h0 : n = n2
  · subst h0
    by_cases h1 : k = k2
    · subst h1; simp [Sem.run_bind, Sem.run_ite, q0, q1, e0, e1]
    · simp [Sem.run_bind, Sem.run_ite, q0, q1, e0, e1, h1]
  · simp [Sem.run_bind, Sem.run_ite, q0, q1, e0, e1, h0]

theorem MS.drewN {w : World} {v : Value} {l : List (Bs × Int)} (h : MS w v l) (n : Nat) : MS (w.drewN n) v l := h.keep (below_drewN (Below.refl _ _) n)

set_option maxRecDepth 100000 in
set_option maxHeartbeats 1000000 in
theorem samemembers_any (u v : Value) (l m : List (Bs × Int)) (w : World) (hu : MS w u l) (hv : MS w v m) :
    Calls Tryz.prog 64 #[u, v] w fun e w' => e = .returned (.bool (decide (l = m))) ∧ ∃ n, w' = w.drewN n := by
  obtain ⟨a, c, rfl⟩ := hu.form
  obtain ⟨b, d, rfl⟩ := hv.form
  have hls := hu.small
  generalize hr : decide (l = m) = r
  have HR := Lib.hid hr
  clear hr
  by_cases hl : l.length = m.length
  · have hl1 : ((l.length : Int) == (m.length : Int)) = true := by simp; omega
    have HL := Lib.hid hl
    clear hl
    go_enter Tryz.func64, Tryz.ntmps64
    go_wp2_with fail
    go_loopw [5, 6] (fun s5 s6 wr => ∃ (i : Nat) (q : Bool), i ≤ l.length ∧ s6 = .int .i64 i ∧ s5 = .bool q ∧ Hid ((q = true → l.take i = m.take i) ∧ (q = false → l ≠ m)) ∧ ∃ n, wr = w.drewN n) (fun _ s6 _ => l.length - (intOf s6).toNat)
    case atStart => exact ⟨0, true, by omega, rfl, rfl, Lib.hid ⟨fun _ => rfl, fun h => by cases h⟩, 0, rfl⟩
    case round =>
      obtain ⟨i, q, hi, rfl, rfl, HQ, nq, rfl⟩ := hrel
      cases q
      · have HZ : Hid (r = false) := Lib.hid (by rw [← HR.out]; simp [HQ.out.2 rfl])
        clear HQ
        go_wp2_with fail
        go_ret
        exact ⟨by rw [HZ.out]; rfl, nq, rfl⟩
      · by_cases hlt : i < l.length
        · have hlt' : (i : Int) < (l.length : Int) := by omega
          have hlm : i < m.length := by rw [← HL.out]; exact hlt
          have hlm' : (i : Int) < (m.length : Int) := by omega
          obtain ⟨g, off, rfl, _, c1, c1'⟩ := hu.at i hlt
          obtain ⟨g2, off2, rfl, _, c2, c2'⟩ := hv.at i hlm
          have HS : Hid (l.take (i + 1) = m.take (i + 1) ↔ l.getD i ([], 0) = m.getD i ([], 0)) := Lib.hid (by
            rw [List.take_succ_eq_append_getElem hlt, List.take_succ_eq_append_getElem hlm, HQ.out.1 rfl, List.append_cancel_left_eq]
            simp [List.getD, List.getElem?_eq_getElem hlt, List.getElem?_eq_getElem hlm])
          have HD : Hid (l.getD i ([], 0) ≠ m.getD i ([], 0) → l ≠ m) := Lib.hid (fun h e => h (by rw [e]))
          generalize l.getD i ([], 0) = x at *
          generalize m.getD i ([], 0) = y at *
          obtain ⟨n1, p1⟩ := x
          obtain ⟨n2, p2⟩ := y
          simp only at c1 c1' c2 c2'
          have HU := Lib.hid hu
          have HV := Lib.hid hv
          clear hu hv
          go_wp2_with fail
          go_quiet (fail)
          go_wp2_with fail
          exact ⟨⟨i + 1, decide (n1 = n2) && decide (p1 = p2), by omega, by go_num, rfl, Lib.hid ⟨fun h => HS.out.2 (by simpa using h), fun h => HD.out (by simpa using h)⟩, _, rfl⟩, by simp [intOf]; omega⟩
        · have hie : i = l.length := by omega
          have hd : decide ((i : Int) < (l.length : Int)) = false := by simp; omega
          have HZ : Hid (r = true) := Lib.hid (by
            rw [← HR.out]
            have h := HQ.out.1 rfl
            rw [hie, List.take_length, HL.out, List.take_length] at h
            simp [h])
          clear HQ
          go_wp2_with fail
          go_ret
          exact ⟨by rw [HZ.out]; rfl, nq, rfl⟩
  · have hl1 : ((l.length : Int) == (m.length : Int)) = false := by rw [beq_eq_false_iff_ne]; omega
    have HZ : Hid (r = false) := Lib.hid (by rw [← HR.out]; simp; intro e; exact hl (by rw [e]))
    clear hl
    go_enter Tryz.func64, Tryz.ntmps64
    go_wp2_with fail
    go_loopw [5, 6] (fun s5 s6 wr => s5 = .bool false ∧ s6 = .int .i64 0 ∧ wr = w) (fun _ s6 _ => 0)
    case atStart => exact ⟨rfl, rfl, rfl⟩
    case round =>
      obtain ⟨rfl, rfl, rfl⟩ := hrel
      go_wp2_with fail
      go_ret
      exact ⟨by rw [HZ.out]; rfl, 0, rfl⟩

theorem any_set {w : World} {g n : Nat} (h : ∀ j, j < n → ∃ x : Value, w.cell? ⟨g, j, none⟩ = some x) (i : Nat) (hi : i < n) (v : Value) : ∀ j, j < n → ∃ x : Value, (w.setCell ⟨g, i, none⟩ v).cell? ⟨g, j, none⟩ = some x := by
  intro j hj
  by_cases e : j = i
  · subst e
    obtain ⟨x, hx⟩ := h j hj
    exact ⟨_, World.cell?_setCell_same _ _ _ hx⟩
  · obtain ⟨y, hy⟩ := h j hj
    exact ⟨y, by rw [World.cell?_setCell_other _ _ _ _ (fun h => e (by injection h with _ h2 _; exact h2.symm))]; exact hy⟩
theorem MSrc.any {w : World} {g : Nat} {l : List (Bs × Int)} (h : MSrc w g 0 l) : ∀ j, j < l.length * 2 → ∃ x : Value, w.cell? ⟨g, j, none⟩ = some x := by
  intro j hj
  obtain ⟨i, hi | hi⟩ : ∃ i, j = i * 2 ∨ j = i * 2 + 1 := ⟨j / 2, by omega⟩
  · subst hi
    have := (h i (by omega)).1
    rw [Nat.zero_add] at this
    exact ⟨_, this⟩
  · subst hi
    have := (h i (by omega)).2
    rw [Nat.zero_add] at this
    exact ⟨_, this⟩

set_option maxRecDepth 100000 in
set_option maxHeartbeats 1000000 in
theorem spoilm_any (base : Nat) (v : Value) (l : List (Bs × Int)) (w : World) (hv : MRow w base v l) :
    Calls Tryz.prog 95 #[v] w fun e w' => e = .returned (.tuple #[]) ∧ Mod v.ownBlock.toList w w' := by
  rcases hv.cells with ⟨rfl, rfl⟩ | ⟨g, cap, rfl, h1, h2, h3, h4, h5, h6⟩
  · go_enter Tryz.func95, Tryz.ntmps95
    go_wp2_with fail
    go_loopw [2] (fun s2 wr => s2 = .int .i64 0 ∧ wr = w) (fun s2 _ => 0)
    case atStart => exact ⟨rfl, rfl⟩
    case round =>
      obtain ⟨rfl, rfl⟩ := hrel
      go_wp2_with fail
      refine bodyPost_end (results_none rfl _ _ _) rfl ?_
      exact ⟨rfl, Mod.refl _ _⟩
  · unfold maxLen at h4
    have H5 := Lib.hid h5.any
    have H6 := Lib.hid h6
    clear h5 h6 hv
    go_enter Tryz.func95, Tryz.ntmps95
    go_wp2_with fail
    go_loopw [2] (fun s2 wr => ∃ i : Nat, i ≤ l.length ∧ s2 = .int .i64 i ∧ Hid (∀ j, j < l.length * 2 → ∃ x : Value, wr.cell? ⟨g, j, none⟩ = some x) ∧ Hid (∀ o, wr.frozen? ⟨g, o, none⟩ = false) ∧ Mod [g] w wr) (fun s2 _ => l.length - (intOf s2).toNat)
    case atStart => exact ⟨0, by omega, rfl, H5, H6, Mod.refl _ _⟩
    case round =>
      obtain ⟨i, hi, rfl, HC, HF, hm⟩ := hrel
      by_cases hlt : i < l.length
      · have hlt' : (i : Int) < (l.length : Int) := by omega
        obtain ⟨x, hx⟩ := HC.out (i * 2) (by omega)
        obtain ⟨y, hy⟩ := HC.out (i * 2 + 1) (by omega)
        have hf := HF.out (i * 2)
        have hf2 := HF.out (i * 2 + 1)
        go_wp2_with fail
        refine ⟨⟨i + 1, by omega, by go_num, Lib.hid (any_set (any_set HC.out _ (by omega) _) _ (by omega) _), Lib.hid (fun o => by rw [World.frozen?_setCell, World.frozen?_setCell]; exact HF.out o), (hm.setCell (.inl (by simp)) _).setCell (.inl (by simp)) _⟩, by simp [intOf]; omega⟩
      · have hlt' : ¬ (i : Int) < (l.length : Int) := by omega
        go_wp2_with fail
        refine bodyPost_end (results_none rfl _ _ _) rfl ?_
        exact ⟨rfl, hm⟩

end Go.Proofs.YthgjdaomcpinaaaGreatDoor
