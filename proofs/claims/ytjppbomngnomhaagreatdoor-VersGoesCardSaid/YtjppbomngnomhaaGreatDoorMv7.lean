/- Tied, TrieW, NibC, Get, Held. -/
import Derived.Laws.Tables
import Derived.Test.YtjppbomngnomhaaGreatDoorMv6
set_option linter.unnecessarySimpa false
set_option linter.unusedSimpArgs false
set_option linter.unusedVariables false
set_option maxRecDepth 100000
set_option maxHeartbeats 32000000
namespace Go.Proofs.YtjppbomngnomhaaGreatDoor
open Go.RowKit Pl
theorem row16p : RowT Tryz.prog 77 16 := RowT.mk' Tryz.underlying77 rfl (by kernel_rfl)
theorem wpList_bTo {P : Program} {Q : Exit → Act → World → Prop} {ops : Array Oper} {rest : List Oper} {o : Oper} {a : Act} {w : World} (hg : o.guard = none) (t : TypeId) (parts : Array (Nat × Operand)) (ho : o.op = .build t parts)
  (cells : Array Value) (hf : P.built t (parts.map fun (i, x) => (i, a.eval x)).toList = some cells)
  (h : wpList P ops Q rest (a.put o.dst (.agg cells)) w) : wpList P ops Q (o :: rest) a w := by
 refine wpList_build hg t parts ho (by rw [hf]; rfl) ?_
 rw [hf]
 exact h
theorem w64_add' (a b : Nat) : wrap64 (w64 a + w64 b) = w64 (a + b) := by rw [← w64_add]; simp only [wrap64, IntKind.wrap_i64]
theorem w64_one' (a : Nat) : wrap64 (w64 a + 1) = w64 (a + 1) := by rw [← w64_one]; simp only [wrap64, IntKind.wrap_i64]
def kidsUp (T : Nat → Tri) (k : Nat) : Nat → Bs := fun i => if i < k then sumT (T i) else []
theorem kidsUp_zero (T : Nat → Tri) : kidsUp T 0 = noK := by
 funext i
 simp [kidsUp, noK]
theorem kidsUp_succ (T : Nat → Tri) (k : Nat) : kidsUp T (k + 1) = upd (kidsUp T k) k (sumT (T k)) := by
 funext i
 simp only [kidsUp, upd]
 by_cases h : i = k
 ·subst h; simp
 ·rw [if_neg h]
  by_cases h2 : i < k
  ·rw [if_pos h2, if_pos (by omega)]
  ·rw [if_neg h2, if_neg (by omega)]
theorem kidsUp_skip (T : Nat → Tri) (k : Nat) (h : T k = .nil) : kidsUp T (k + 1) = kidsUp T k := by
 rw [kidsUp_succ, h]
 funext i
 simp only [upd, sumT]
 split
 ·rename_i e; subst e; simp [kidsUp]
 ·rfl
theorem kn_kid (kind : Int) (path val : Bs) (f : Nat → Bs) (ps : Ps) (t s : Bs) (m : Int) (x : Bs) : ∀ i, i < 16 → (kn kind path val f ps t s m).toArray.setIfInBounds (3 + i) (.string ⟨List.toArray x⟩) = (kn kind path val (upd f i x) ps t s m).toArray
 | 0, _ => rfl
 | 1, _ => rfl
 | 2, _ => rfl
 | 3, _ => rfl
 | 4, _ => rfl
 | 5, _ => rfl
 | 6, _ => rfl
 | 7, _ => rfl
 | 8, _ => rfl
 | 9, _ => rfl
 | 10, _ => rfl
 | 11, _ => rfl
 | 12, _ => rfl
 | 13, _ => rfl
 | 14, _ => rfl
 | 15, _ => rfl
 | i + 16, h => absurd h (by omega)
theorem kn_many (kind : Int) (path val : Bs) (f : Nat → Bs) (ps : Ps) (t s : Bs) (m n : Int) : (kn kind path val f ps t s m).toArray.setIfInBounds 37 (.int .i64 n) = (kn kind path val f ps t s n).toArray := rfl
theorem kn_text (kind : Int) (path val : Bs) (f : Nat → Bs) (ps : Ps) (t s : Bs) (m : Int) (x : Bs) : (kn kind path val f ps t s m).toArray.setIfInBounds 35 (.string ⟨List.toArray x⟩) = (kn kind path val f ps x s m).toArray := rfl
theorem kn_sum (kind : Int) (path val : Bs) (f : Nat → Bs) (ps : Ps) (t s : Bs) (m : Int) (x : Bs) : (kn kind path val f ps t s m).toArray.setIfInBounds 36 (.string ⟨List.toArray x⟩) = (kn kind path val f ps t x m).toArray := rfl
theorem kn_kid_at (kind : Int) (path val : Bs) (f : Nat → Bs) (ps : Ps) (t s : Bs) (m : Int) : ∀ i, i < 16 → (kn kind path val f ps t s m).toArray[3 + i]? = some (.string ⟨List.toArray (f i)⟩)
 | 0, _ => rfl
 | 1, _ => rfl
 | 2, _ => rfl
 | 3, _ => rfl
 | 4, _ => rfl
 | 5, _ => rfl
 | 6, _ => rfl
 | 7, _ => rfl
 | 8, _ => rfl
 | 9, _ => rfl
 | 10, _ => rfl
 | 11, _ => rfl
 | 12, _ => rfl
 | 13, _ => rfl
 | 14, _ => rfl
 | 15, _ => rfl
 | i + 16, h => absurd h (by omega)
structure KnC (w : World) (b : Nat) (kind : Int) (path val : Bs) (ps : Ps) (text sum : Bs) (many : Int) : Prop where
 kind : w.cell? ⟨b, 0, none⟩ = some (.int .i64 kind)
 path : w.cell? ⟨b, 1, none⟩ = some (.string ⟨List.toArray path⟩)
 val : w.cell? ⟨b, 2, none⟩ = some (.string ⟨List.toArray val⟩)
 text : w.cell? ⟨b, 35, none⟩ = some (.string ⟨List.toArray text⟩)
 sum : w.cell? ⟨b, 36, none⟩ = some (.string ⟨List.toArray sum⟩)
 many : w.cell? ⟨b, 37, none⟩ = some (.int .i64 many)
 first : w.cell? ⟨b, 19, none⟩ = some (ptV (ps 0))
theorem Blk.kn {w : World} {b : Nat} {kind : Int} {path val : Bs} {f : Nat → Bs} {ps : Ps} {t s : Bs} {m : Int} (h : Blk w b (kn kind path val f ps t s m).toArray) : KnC w b kind path val ps t s m :=
 ⟨h.cell 0, h.cell 1, h.cell 2, h.cell 35, h.cell 36, h.cell 37, h.cell 19⟩
theorem nd_pre (kind : Int) (path val : Bs) (f : Nat → Bs) (ps : Ps) (t s : Bs) (m : Int) (j : Nat) (v : Value) (h : (nd kind path val f)[j]? = some v) : (kn kind path val f ps t s m).toArray[j]? = some v := by
 unfold Go.Proofs.YtjppbomngnomhaaGreatDoor.kn
 rw [List.getElem?_toArray, List.getElem?_append_left]
 ·exact h
 ·rcases Nat.lt_or_ge j (nd kind path val f).length with h1 | h1
  ·exact h1
  ·rw [List.getElem?_eq_none h1] at h; cases h
theorem pk_pre (kind : Int) (path val : Bs) (f : Nat → Bs) (ps : Ps) (t s : Bs) (m : Int) (j : Nat) (v : Value) (h : (pk ps)[j]? = some v) : (kn kind path val f ps t s m).toArray[19 + j]? = some v := by
 unfold Go.Proofs.YtjppbomngnomhaaGreatDoor.kn
 rw [List.getElem?_toArray, List.getElem?_append_right (by rw [nd_len]; omega), nd_len, show 19 + j - 19 = j from by omega, List.getElem?_append_left]
 ·exact h
 ·rcases Nat.lt_or_ge j (pk ps).length with h1 | h1
  ·exact h1
  ·rw [List.getElem?_eq_none h1] at h; cases h
theorem kn_node {w : World} {b : Nat} {kind : Int} {path val : Bs} {f : Nat → Bs} {ps : Ps} {t s : Bs} {m : Int} (h : Blk w b (kn kind path val f ps t s m).toArray) : w.rangeAt b 0 (nd kind path val f) := by
 intro j v hv
 rw [Nat.zero_add, h.cell j]
 exact nd_pre _ _ _ _ _ _ _ _ j v hv
theorem kn_ptrs {w : World} {b : Nat} {kind : Int} {path val : Bs} {f : Nat → Bs} {ps : Ps} {t s : Bs} {m : Int} (h : Blk w b (kn kind path val f ps t s m).toArray) : w.rangeAt b 19 (pk ps) := by
 intro j v hv
 rw [h.cell (19 + j)]
 exact pk_pre _ _ _ _ _ _ _ _ j v hv
theorem pk_info : (Tryz.prog.info? 77).map (·.size) = some 16 := by kernel_rfl
section
variable {ops : Array Oper} {rest : List Oper} {op : Oper} {a : Act} {w : World} {Q : Exit → Act → World → Prop}
theorem wpList_knNode (hgd : op.guard = none) (x : Operand) (ho : op.op = .load 76 x) {b : Nat} (hx : a.eval x = .pointer (some ⟨b, 0, none⟩)) {kind : Int} {path val : Bs} {f : Nat → Bs} {ps : Ps} {t s : Bs} {m : Int} (hB : Blk w b (kn kind path val f ps t s m).toArray)
  (h : wpList Tryz.prog ops Q rest (a.put op.dst (.agg (nd kind path val f).toArray)) w) : wpList Tryz.prog ops Q (op :: rest) a w :=
 wpList_load_mid hgd 76 x ho b 0 hx (nd kind path val f) _ (kn_node hB) Tryz.underlying76 rfl (by rw [nd_len]; exact nd_info) h
theorem wpList_knPtrs (hgd : op.guard = none) (x : Operand) (ho : op.op = .load 77 x) {b : Nat} (hx : a.eval x = .pointer (some ⟨b, 19, none⟩)) {kind : Int} {path val : Bs} {f : Nat → Bs} {ps : Ps} {t s : Bs} {m : Int} (hB : Blk w b (kn kind path val f ps t s m).toArray)
  (h : wpList Tryz.prog ops Q rest (a.put op.dst (.agg (pk ps).toArray)) w) : wpList Tryz.prog ops Q (op :: rest) a w :=
 wpList_load_mid hgd 77 x ho b 19 hx (pk ps) _ (kn_ptrs hB) Tryz.underlying77 rfl (by rw [pk_len]; exact pk_info) h
end
@[go_sem, simp] theorem ptV_none : ptV none = .pointer none := rfl
@[go_sem, simp] theorem ptV_some (b : Nat) : ptV (some b) = .pointer (some ⟨b, 0, none⟩) := rfl
theorem infoPtr : (Tryz.prog.info? 66).map (fun i => (i.zero, i.size, i.bytes)) = some (some (.pointer none), 1, 8) := by kernel_rfl
theorem pk_index (ps : Ps) (k : Nat) (hk : k < 16) (w : World) : (Instr.index 77 (.agg (pk ps).toArray) (.int .i64 (k : Int))).run Tryz.prog w = .ok (ptV (ps k)) w := by
 obtain ⟨i0, hi, _, hs, _⟩ := info_parts infoPtr
 have hpart : (part 66 (pk ps).toArray k).run Tryz.prog w = .ok (ptV (ps k)) w := by
  unfold part
  simp [isAgg, run_underlying Tryz.underlying66, Sem.run_bind, pk_at ps k hk]
 have hsz : (Go.sizeOf 66).run Tryz.prog w = .ok 1 w := by simp [Go.sizeOf, typeInfo, hi, hs]
 have hk' : (0 : Int) ≤ (k : Int) ∧ (k : Int) < 16 := by omega
 simp [Instr.index, asIntOf, run_underlying Tryz.underlying77, hk', hsz, hpart, Sem.run_bind]
 intro h
 omega
theorem kat_kid {w : World} {t : Tri} {p : Option Nat} (h : KAt w t p) : (p = none ∧ t = .nil) ∨ ∃ c, p = some c ∧ t ≠ .nil ∧ c < w.heap.size ∧ w.cell? ⟨c, 36, none⟩ = some (.string ⟨List.toArray (sumT t)⟩) ∧ w.cell? ⟨c, 37, none⟩ = some (.int .i64 (w64 (rp t).length)) := by
 cases h with
 | nil => exact .inl ⟨rfl, rfl⟩
 | knot _ b ps h hk hB => exact .inr ⟨b, rfl, h, hB.lt, hB.kn.sum, hB.kn.many⟩
theorem tied_any (kind : Int) (path val : Bs) (hp : path.length ≤ 1000) (T : Nat → Tri) (ps : Ps) (w : World) (hk : KT w) (hT : ∀ i, i < 16 → KAt w (T i) (ps i)) :
  Calls Tryz.prog 70 #[.agg (nd kind path val noK).toArray, .agg (pk ps).toArray] w fun e w' => ∃ b, e = .returned (.pointer (some ⟨b, 0, none⟩)) ∧ Below w.heap.size w w' ∧
   Blk w' b (kn kind path val (kidF fun i => sumT (T i)) ps (encR kind path val (kidF fun i => sumT (T i))).1 (dgP kind path val (kidF fun i => sumT (T i))) (w64 (cntT T 16 + ownN val))).toArray := by
 have hB1 := Blk.new w (nd kind path val noK).toArray 76
 have hB2 := Blk.new (w.alloc (.cells (nd kind path val noK).toArray 76)) (pk ps).toArray 77
 have hsz : (w.alloc (.cells (nd kind path val noK).toArray 76)).heap.size = w.heap.size + 1 := by simp
 rw [hsz] at hB2
 have hB1' := hB1.alloc (.cells (pk ps).toArray 77)
 have hB3 := Blk.new ((w.alloc (.cells (nd kind path val noK).toArray 76)).alloc (.cells (pk ps).toArray 77)) (kn kind path val noK ps [] [] 0).toArray 79
 have hsz2 : ((w.alloc (.cells (nd kind path val noK).toArray 76)).alloc (.cells (pk ps).toArray 77)).heap.size = w.heap.size + 1 + 1 := by simp
 rw [hsz2] at hB3
 have hB2' := hB2.alloc (.cells (kn kind path val noK ps [] [] 0).toArray 79)
 have hB1'' := hB1'.alloc (.cells (kn kind path val noK ps [] [] 0).toArray 79)
 have hb0 : Below w.heap.size w ((((w.alloc (.cells (nd kind path val noK).toArray 76)).alloc (.cells (pk ps).toArray 77))).alloc (.cells (kn kind path val noK ps [] [] 0).toArray 79)) :=
  Below.allocS (Below.allocS (Below.allocS (Below.refl _ _) _) _) _
 rw [← kidsUp_zero T] at hB3
 rw [← w64_zero] at hB3
 clear hsz hsz2
 go_enter Tryz.func70, Tryz.ntmps70
 go_wp2_with (first
  | (refine wpList_node rfl (.tmp 2) rfl rfl hB1' ?_)
  | (refine wpList_rowLoad row16p rfl (.tmp 3) rfl rfl (pk_len ps) hB2 ?_)
  | (refine wpList_bTo rfl 79 _ rfl (kn kind path val noK ps [] [] 0).toArray (by kernel_rfl) ?_)
  | (refine wpList_rowLoad row16p rfl (.tmp 3) rfl rfl (pk_len ps) hB2' ?_)
  | fail)
 clear hB1 hB1' hB2 hB2'
 go_loopw [13] (fun s13 wr => ∃ k : Nat, k ≤ 16 ∧ s13 = .int .i64 k ∧ Blk wr (w.heap.size + 1 + 1) (kn kind path val (kidsUp T k) ps [] [] (w64 (cntT T k))).toArray ∧ Blk wr w.heap.size (nd kind path val noK).toArray ∧ Below w.heap.size w wr) (fun s13 _ => 16 - (intOf s13).toNat)
 case atStart => exact ⟨0, by omega, rfl, hB3, hB1'', hb0⟩
 case round =>
  obtain ⟨k, hk16, rfl, hB, hN, hb⟩ := hrel
  clear hB3 hb0 hB1''
  rename_i wr
  by_cases hlt : k < 16
  ·have hlt' : (k : Int) < 16 := by omega
   have hki := pk_index ps k hlt
   rcases kat_kid (hT k hlt) with ⟨e1, e2⟩ | ⟨c, e1, e2, hc, c1, c2⟩
   ·rw [e1, ptV_none] at hki
    go_wp2_with fail
    exact ⟨⟨k + 1, by omega, by go_num, by rw [kidsUp_skip T k e2, cntT, e2]; exact hB, hN, hb⟩, by simp [intOf]; omega⟩
   ·rw [e1, ptV_some] at hki
    have c1' := keepC hb c1
    have c2' := keepC hb c2
    have hne : ¬ (c = w.heap.size + 1 + 1) := by omega
    have k1 := (hB.cell (3 + k)).trans (kn_kid_at _ _ _ _ _ _ _ _ k hlt)
    have k2 := hB.kn.many
    have k3 := hB.froz
    have k4 := hB.lt
    have k5 : (0 : Int) ≤ (k : Int) ∧ (k : Int) < 16 := by omega
    have HB := Lib.hid hB
    have HN := Lib.hid hN
    clear c1 c2 hB hN
    go_wp2_with fail
    go_region
    go_wp2_with fail
    go_region
    go_wp2_with fail
    have hB2 := (HB.out.set (3 + k) (.string ⟨List.toArray (sumT (T k))⟩)).set 37 (.int .i64 (wrap64 (w64 (cntT T k) + w64 (rp (T k)).length)))
    rw [kn_kid _ _ _ _ _ _ _ _ _ k hlt, kn_many, ← kidsUp_succ, w64_add'] at hB2
    rw [w64_add']
    refine ⟨⟨k + 1, by omega, by go_num, hB2.drew.drew, ((HN.out.other (a := ⟨w.heap.size + 1 + 1, 3 + k, none⟩) (by show w.heap.size + 1 + 1 ≠ w.heap.size; omega) _).other (a := ⟨w.heap.size + 1 + 1, 37, none⟩) (by show w.heap.size + 1 + 1 ≠ w.heap.size; omega) _).drew.drew, ?_⟩, by simp [intOf]; omega⟩
    exact ((hb.setCell (p := ⟨w.heap.size + 1 + 1, 3 + k, none⟩) (by show w.heap.size ≤ w.heap.size + 1 + 1; omega) _).setCell (p := ⟨w.heap.size + 1 + 1, 37, none⟩) (by show w.heap.size ≤ w.heap.size + 1 + 1; omega) _).drew.drew
  ·have hke : k = 16 := by omega
   subst hke
   have n2 : wr.cell? ⟨w.heap.size, 2, none⟩ = some (.string ⟨List.toArray val⟩) := hN.cell 2
   by_cases hv : val = []
   ·subst hv
    have HO : Hid (cntT T 16 + ownN [] = cntT T 16) := Lib.hid (by simp [ownN])
    have hBz := hB
    have hbz := hb
    clear hN
    go_wp2_with (first
     | (refine wpList_knNode rfl (.tmp 55) rfl rfl hBz ?_)
     | fail)
    refine (encode_any kind path [] (kidsUp T 16) (by omega) _).mono ?_
    rintro e w1 ⟨rfl, hb1⟩
    have hB1 := hBz.keep hb1
    have hbw := hbz.trans (hb1.mono hbz.size)
    have t1 := hB1.kn.text
    have t3 := hB1.froz
    have t4 := hB1.lt
    have hB2 := hB1.set 35 (.string ⟨List.toArray ((encR kind path [] (kidsUp T 16)).1)⟩)
    rw [kn_text] at hB2
    have hbw2 := hbw.setCell (p := ⟨w.heap.size + 1 + 1, 35, none⟩) (by show w.heap.size ≤ w.heap.size + 1 + 1; omega) (.string ⟨List.toArray ((encR kind path [] (kidsUp T 16)).1)⟩)
    have HB1 := Lib.hid hB1
    clear hB1 hBz hb1
    go_wp2_with (first
     | (refine wpList_knNode rfl (.tmp 65) rfl rfl hB2 ?_)
     | fail)
    refine (ndigest_any kind path [] (kidsUp T 16) hp _ (hk.keep hbw2)).mono ?_
    rintro e w2 ⟨rfl, hb2⟩
    have hB3 := hB2.keep hb2
    have hbw3 := hbw2.trans (hb2.mono hbw2.size)
    have u1 := hB3.kn.sum
    have u3 := hB3.froz
    have u4 := hB3.lt
    have hB4 := hB3.set 36 (.string ⟨List.toArray (dgP kind path [] (kidsUp T 16))⟩)
    rw [kn_sum] at hB4
    have HB3 := Lib.hid hB3
    clear hB3 hB2 hb2
    go_wp2_with fail
    go_ret
    exact ⟨_, rfl, hbw3.setCell (p := ⟨w.heap.size + 1 + 1, 36, none⟩) (by show w.heap.size ≤ w.heap.size + 1 + 1; omega) _, by rw [HO.out]; exact hB4⟩
   ·have HO : Hid (cntT T 16 + ownN val = cntT T 16 + 1) := Lib.hid (by simp [ownN, hv])
    have hv1 : val.isEmpty = false := by simpa using hv
    have k2 := hB.kn.many
    have k3 := hB.froz
    have k4 := hB.lt
    have hw1 := w64_one' (cntT T 16)
    have hBz := hB.set 37 (.int .i64 (w64 (cntT T 16 + 1)))
    rw [kn_many] at hBz
    have hbz := hb.setCell (p := ⟨w.heap.size + 1 + 1, 37, none⟩) (by show w.heap.size ≤ w.heap.size + 1 + 1; omega) (.int .i64 (w64 (cntT T 16 + 1)))
    clear hN
    go_wp2_with (first
     | (refine wpList_knNode rfl (.tmp 55) rfl rfl hBz ?_)
     | fail)
    refine (encode_any kind path val (kidsUp T 16) (by omega) _).mono ?_
    rintro e w1 ⟨rfl, hb1⟩
    have hB1 := hBz.keep hb1
    have hbw := hbz.trans (hb1.mono hbz.size)
    have t1 := hB1.kn.text
    have t3 := hB1.froz
    have t4 := hB1.lt
    have hB2 := hB1.set 35 (.string ⟨List.toArray ((encR kind path val (kidsUp T 16)).1)⟩)
    rw [kn_text] at hB2
    have hbw2 := hbw.setCell (p := ⟨w.heap.size + 1 + 1, 35, none⟩) (by show w.heap.size ≤ w.heap.size + 1 + 1; omega) (.string ⟨List.toArray ((encR kind path val (kidsUp T 16)).1)⟩)
    have HB1 := Lib.hid hB1
    clear hB1 hBz hb1
    go_wp2_with (first
     | (refine wpList_knNode rfl (.tmp 65) rfl rfl hB2 ?_)
     | fail)
    refine (ndigest_any kind path val (kidsUp T 16) hp _ (hk.keep hbw2)).mono ?_
    rintro e w2 ⟨rfl, hb2⟩
    have hB3 := hB2.keep hb2
    have hbw3 := hbw2.trans (hb2.mono hbw2.size)
    have u1 := hB3.kn.sum
    have u3 := hB3.froz
    have u4 := hB3.lt
    have hB4 := hB3.set 36 (.string ⟨List.toArray (dgP kind path val (kidsUp T 16))⟩)
    rw [kn_sum] at hB4
    have HB3 := Lib.hid hB3
    clear hB3 hB2 hb2
    go_wp2_with fail
    go_ret
    exact ⟨_, rfl, hbw3.setCell (p := ⟨w.heap.size + 1 + 1, 36, none⟩) (by show w.heap.size ≤ w.heap.size + 1 + 1; omega) _, by rw [HO.out]; exact hB4⟩
end Go.Proofs.YtjppbomngnomhaaGreatDoor
namespace Go.Proofs.YtjppbomngnomhaaGreatDoor
open Go.RowKit Pl
theorem wp_load1 {P : Program} {o : Oper} {a : Act} {w : World} {K : Act → World → Prop} {Q : Exit → Act → World → Prop} (T : TypeId) (x : Operand) (ho : o.op = .load T x) (ad : Addr) (hx : a.eval x = .pointer (some ad)) (v : Value)
  (hr : (loadVar T ad).run P w = .ok v w) (h : K (a.put o.dst v) w) : o.wp P a w K Q := by
 unfold Oper.wp execOp
 simp only [ho, hx, Instr.loadAt, Instr.sureAddr, Sem.run_bind, Sem.run_pure, Result.andThen_ok, hr]
 exact h
def KOut (B : Nat) (w : World) (t : Tri) (e : Ending) (w' : World) : Prop := ∃ b, e = .returned (.pointer (some ⟨b, 0, none⟩)) ∧ Below B w w' ∧ KAt w' t (some b)
theorem tied_kat (t : Tri) (ht : t ≠ .nil) (hp : (pathT t).length ≤ 1000) (ps : Ps) (w : World) (hk : KT w) (hT : ∀ i, i < 16 → KAt w (kidsOf t i) (ps i)) :
  Calls Tryz.prog 70 #[.agg (nd (kindT t) (pathT t) (valT t) noK).toArray, .agg (pk ps).toArray] w (KOut w.heap.size w t) := by
 refine (tied_any (kindT t) (pathT t) (valT t) hp (kidsOf t) ps w hk hT).mono ?_
 rintro e w' ⟨b, rfl, hb, hB⟩
 refine ⟨b, rfl, hb, .knot t b ps ht (fun i hi => (hT i hi).keep hb) ?_⟩
 rw [sumT_knot t ht, rp_len t ht]
 exact hB
theorem pk_no : (pk noP).toArray = #[.pointer none, .pointer none, .pointer none, .pointer none, .pointer none, .pointer none, .pointer none, .pointer none, .pointer none, .pointer none, .pointer none, .pointer none, .pointer none, .pointer none, .pointer none, .pointer none] := rfl
theorem leaf_any (path val : Bs) (hp : path.length ≤ 1000) (w : World) (hk : KT w) :
  Calls Tryz.prog 64 #[.string ⟨List.toArray path⟩, .string ⟨List.toArray val⟩] w (KOut w.heap.size w (.leaf path val)) := by
 have ht : Calls Tryz.prog 70 #[.agg (nd 1 path val noK).toArray, .agg (pk noP).toArray] w (KOut w.heap.size w (.leaf path val)) := tied_kat (.leaf path val) (by simp) hp noP w hk (kat_no w)
 go_enter Tryz.func64, Tryz.ntmps64
 go_wp2_with (first
  | (refine wpList_bTo rfl 76 _ rfl (nd 1 path val noK).toArray (by kernel_rfl) ?_)
  | (refine wpList_bTo rfl 77 _ rfl (pk noP).toArray (by kernel_rfl) ?_)
  | fail)
 refine ht.mono ?_
 rintro e w1 ⟨b, rfl, hb, hK⟩
 clear ht
 go_wp2_with fail
 go_ret
 exact ⟨b, rfl, hb, hK⟩
theorem branch_any (val : Bs) (kids : Nat → Tri) (ps : Ps) (w : World) (hk : KT w) (hT : ∀ i, i < 16 → KAt w (kids i) (ps i)) :
  Calls Tryz.prog 65 #[.string ⟨List.toArray val⟩, .agg (pk ps).toArray] w (KOut w.heap.size w (.br val kids)) := by
 have hB := Blk.new w (pk ps).toArray 77
 have hb0 : Below w.heap.size w (w.alloc (.cells (pk ps).toArray 77)) := Below.allocS (Below.refl _ _) _
 have ht : Calls Tryz.prog 70 #[.agg (nd 3 ([]) val noK).toArray, .agg (pk ps).toArray] (w.alloc (.cells (pk ps).toArray 77)) (KOut (w.alloc (.cells (pk ps).toArray 77)).heap.size (w.alloc (.cells (pk ps).toArray 77)) (.br val kids)) :=
  tied_kat (.br val kids) (by simp) (by simp [pathT]) ps _ (hk.keep hb0) (fun i hi => (hT i hi).keep hb0)
 go_enter Tryz.func65, Tryz.ntmps65
 go_wp2_with (first
  | (refine wpList_bTo rfl 76 _ rfl (nd 3 [] val noK).toArray (by kernel_rfl) ?_)
  | (refine wpList_rowLoad row16p rfl (.tmp 3) rfl rfl (pk_len ps) hB ?_)
  | fail)
 refine ht.mono ?_
 rintro e w1 ⟨b, rfl, hb, hK⟩
 clear ht
 go_wp2_with fail
 go_ret
 exact ⟨b, rfl, hb0.trans (hb.mono hb0.size), hK⟩
theorem KAt.open {w : World} {t : Tri} {b : Nat} (h : KAt w t (some b)) : t ≠ .nil ∧ ∃ ps : Ps, (∀ i, i < 16 → KAt w (kidsOf t i) (ps i)) ∧ KnC w b (kindT t) (pathT t) (valT t) ps (textT t) (sumT t) (w64 (rp t).length) ∧
  Blk w b (kn (kindT t) (pathT t) (valT t) (kidF fun i => sumT (kidsOf t i)) ps (textT t) (sumT t) (w64 (rp t).length)).toArray := by
 obtain ⟨h1, ps, h2, h3⟩ := h.some'
 exact ⟨h1, ps, h2, h3.kn, h3⟩
theorem joined_any (path : Bs) (t : Tri) (b : Nat) (w : World) (hk : KT w) (hT : KAt w t (some b)) (hl : path.length + (pathT t).length ≤ 1000) :
  Calls Tryz.prog 63 #[.string ⟨List.toArray path⟩, .pointer (some ⟨b, 0, none⟩)] w (KOut w.heap.size w (joinT path t)) := by
 by_cases hp : path = []
 ·subst hp
  rw [joinT_nil]
  go_enter Tryz.func63, Tryz.ntmps63
  go_wp2_with fail
  go_ret
  exact ⟨b, rfl, Below.refl _ _, hT⟩
 ·have hp1 : (path == []) = false := by simpa using hp
  have hp2 : path.isEmpty = false := by simpa using hp
  obtain ⟨hn, ps, hps, hc, hB⟩ := hT.open
  cases t with
  | nil => exact absurd rfl hn
  | leaf q v =>
   have hq : joinT path (.leaf q v) = .leaf (path ++ q) v := by simp [joinT, hp]
   rw [hq]
   obtain ⟨c0, c1, c2, _, _, _, _⟩ := hc
   simp only [kindT, pathT, valT] at c0 c1 c2 hl
   clear hB hps hT hn hq hp
   have ht : ∀ W, Below w.heap.size w W → Calls Tryz.prog 64 #[.string ⟨List.toArray (path ++ q)⟩, .string ⟨List.toArray v⟩] W (KOut W.heap.size W (.leaf (path ++ q) v)) := fun W hb => leaf_any (path ++ q) v (by simp; omega) W (hk.keep hb)
   have HL := Lib.hid ht
   clear ht
   go_enter Tryz.func63, Tryz.ntmps63
   go_wp2_with fail
   refine wp_tail 12 (by kernel_rfl) (by kernel_rfl) ?_
   intro w2 hw2
   have hb2 : Below w.heap.size w w2 := by rw [hw2]; exact (Below.refl _ _).drew
   clear hw2
   replace c1 := keepC hb2 c1
   replace c2 := keepC hb2 c2
   simp only [List.take_succ_cons, List.take_zero, List.drop_succ_cons, List.drop_zero]
   have hnl : ¬ 9223372036854775807 < List.length path + List.length q := by omega
   repeat still_step
   refine wpStill_nil ?_
   go_wp2_with fail
   refine (HL.out w2 hb2).mono ?_
   rintro e w3 ⟨b3, rfl, hb3, hK3⟩
   go_wp2_with fail
   go_ret
   exact ⟨b3, rfl, hb2.trans (hb3.mono hb2.size), hK3⟩
  | ext q t =>
   have hq : joinT path (.ext q t) = .ext (path ++ q) t := by simp [joinT, hp]
   rw [hq]
   obtain ⟨c0, c1, c2, _, _, _, c6⟩ := hc
   simp only [kindT, pathT, valT] at c0 c1 c2 hl
   have hk0 := hps 0 (by omega)
   clear hB hps hT hn hq hp
   have e0 : kidsOf (.ext q t) 0 = t := by simp [kidsOf, updT]
   rw [e0] at hk0
   clear e0
   obtain ⟨p0, hp0⟩ : ∃ p, p = ps 0 := ⟨_, rfl⟩
   rw [← hp0] at hk0 c6
   have ht : ∀ W, Below w.heap.size w W → Calls Tryz.prog 70 #[.agg (nd 2 (path ++ q) ([]) noK).toArray, .agg (pk (updP noP 0 p0)).toArray] W (KOut W.heap.size W (.ext (path ++ q) t)) := fun W hb =>
    tied_kat (.ext (path ++ q) t) (by simp) (by simp [pathT]; omega) _ W (hk.keep hb) (kat_upd (kat_no W) 0 (hk0.keep hb))
   have HL := Lib.hid ht
   clear ht hk0 hp0
   rcases p0 with _ | p0
   ·go_enter Tryz.func63, Tryz.ntmps63
    go_wp2_with fail
    go_quiet (fail)
    go_wp2_with (first
     | (refine wpList_bTo rfl 76 _ rfl (nd 2 (path ++ q) [] noK).toArray (by kernel_rfl) ?_)
     | (refine wpList_bTo rfl 77 _ rfl (pk (updP noP 0 none)).toArray (by kernel_rfl) ?_)
     | fail)
    refine (HL.out _ (below_drewN (Below.refl _ _) _)).mono ?_
    rintro e w3 ⟨b3, rfl, hb3, hK3⟩
    go_wp2_with fail
    go_ret
    exact ⟨b3, rfl, (below_drewN (Below.refl _ _) _).trans hb3, hK3⟩
   ·go_enter Tryz.func63, Tryz.ntmps63
    go_wp2_with fail
    go_quiet (fail)
    go_wp2_with (first
     | (refine wpList_bTo rfl 76 _ rfl (nd 2 (path ++ q) [] noK).toArray (by kernel_rfl) ?_)
     | (refine wpList_bTo rfl 77 _ rfl (pk (updP noP 0 (some p0))).toArray (by kernel_rfl) ?_)
     | fail)
    refine (HL.out _ (below_drewN (Below.refl _ _) _)).mono ?_
    rintro e w3 ⟨b3, rfl, hb3, hK3⟩
    go_wp2_with fail
    go_ret
    exact ⟨b3, rfl, (below_drewN (Below.refl _ _) _).trans hb3, hK3⟩
  | br v kids =>
   have hq : joinT path (.br v kids) = .ext path (.br v kids) := by simp [joinT, hp]
   rw [hq]
   obtain ⟨c0, c1, c2, _, _, _, _⟩ := hc
   simp only [kindT, pathT, valT] at c0 c1 c2 hl
   have ht : ∀ W, Below w.heap.size w W → Calls Tryz.prog 70 #[.agg (nd 2 path ([]) noK).toArray, .agg (pk (updP noP 0 (some b))).toArray] W (KOut W.heap.size W (.ext path (.br v kids))) := fun W hb =>
    tied_kat (.ext path (.br v kids)) (by simp) (by simp [pathT]; omega) _ W (hk.keep hb) (kat_upd (kat_no W) 0 (hT.keep hb))
   have HL := Lib.hid ht
   clear ht hB hps hT hn hq hp
   go_enter Tryz.func63, Tryz.ntmps63
   go_wp2_with (first
    | (refine wpList_bTo rfl 76 _ rfl (nd 2 path [] noK).toArray (by kernel_rfl) ?_)
    | (refine wpList_bTo rfl 77 _ rfl (pk (updP noP 0 (some b))).toArray (by kernel_rfl) ?_)
    | fail)
   refine (HL.out _ (Below.refl _ _)).mono ?_
   rintro e w3 ⟨b3, rfl, hb3, hK3⟩
   go_wp2_with fail
   go_ret
   exact ⟨b3, rfl, hb3, hK3⟩
end Go.Proofs.YtjppbomngnomhaaGreatDoor
namespace Go.Proofs.YtjppbomngnomhaaGreatDoor
open Go.RowKit Pl
namespace Pl
theorem common_eq : ∀ (k : Nat) (a b : Bs), a.take k = b.take k → k ≤ a.length → k ≤ b.length → (∀ (h1 : k < a.length) (h2 : k < b.length), a[k] ≠ b[k]) → common a b = k
 | 0, [], b, _, _, _, _ => by simp [common]
 | 0, x :: r, [], _, _, _, _ => by simp [common]
 | 0, x :: r, y :: s, _, _, _, h => by
  have := h (by simp) (by simp)
  simp at this
  simp [common, this]
 | k + 1, [], b, _, h, _, _ => by simp at h
 | k + 1, x :: r, [], _, _, h, _ => by simp at h
 | k + 1, x :: r, y :: s, h1, h2, h3, h4 => by
  simp at h1 h2 h3
  obtain ⟨rfl, h1⟩ := h1
  have := common_eq k r s h1 h2 h3 (fun a b => by
   have := h4 (by simp; omega) (by simp; omega)
   simpa using this)
  simp [common, this]
end Pl
theorem ncommon_any (a b : Bs) (ha : a.length ≤ 9223372036854775806) (hb : b.length ≤ 9223372036854775806) (w : World) :
  Calls Tryz.prog 66 #[.string ⟨List.toArray a⟩, .string ⟨List.toArray b⟩] w fun e w' => e = .returned (.int .i64 ((common a b : Nat))) ∧ ∃ n, w' = w.drewN n := by
 generalize hc : common a b = c
 have HC := Lib.hid hc
 clear hc
 go_enter Tryz.func66, Tryz.ntmps66
 go_wp2_with fail
 go_loopw [5] (fun s5 wr => ∃ k : Nat, s5 = .int .i64 k ∧ k ≤ a.length ∧ k ≤ b.length ∧ Hid (a.take k = b.take k) ∧ ∃ n, wr = w.drewN n) (fun s5 _ => a.length - (intOf s5).toNat)
 case atStart => exact ⟨0, rfl, by omega, by omega, Lib.hid (by simp), 0, rfl⟩
 case round =>
  obtain ⟨k, rfl, hka, hkb, HT, nq, rfl⟩ := hrel
  by_cases h1 : k < a.length
  ·have d1 : decide ((k : Int) < (a.length : Int)) = true := by simp; omega
   by_cases h2 : k < b.length
   ·have d2 : decide ((k : Int) < (b.length : Int)) = true := by simp; omega
    have i1 : (k : Int) < (a.length : Int) := by omega
    have i2 : (k : Int) < (b.length : Int) := by omega
    have hx := a[k].toNat_lt
    have hy := b[k].toNat_lt
    have HS : Hid (a.take (k + 1) = b.take (k + 1) ↔ a[k] = b[k]) := Lib.hid (by
     rw [List.take_succ_eq_append_getElem h1, List.take_succ_eq_append_getElem h2, HT.out, List.append_cancel_left_eq]
     simp)
    by_cases h3 : a[k] = b[k]
    ·have HT2 := Lib.hid (HS.out.2 h3)
     have e3 : ((a[k].toNat : Int) == (b[k].toNat : Int)) = true := by rw [h3]; simp
     clear h3 HS
     go_wp2_with fail
     go_quiet (fail)
     go_wp2_with fail
     exact ⟨⟨k + 1, by go_num, by omega, by omega, HT2, _, rfl⟩, by simp [intOf]; omega⟩
    ·have e3 : ((a[k].toNat : Int) == (b[k].toNat : Int)) = false := by
      rw [beq_eq_false_iff_ne]
      intro e
      exact h3 (UInt8.toNat_inj.1 (by omega))
     have HZ : Hid (c = k) := Lib.hid (by rw [← HC.out]; exact common_eq k a b HT.out hka hkb (fun _ _ => h3))
     clear h3 HS
     go_wp2_with fail
     go_quiet (fail)
     go_wp2_with fail
     go_ret
     exact ⟨by rw [HZ.out]; rfl, _, World.drewN_drewN _ _ _⟩
   ·have d2 : decide ((k : Int) < (b.length : Int)) = false := by simp; omega
    have HZ : Hid (c = k) := Lib.hid (by rw [← HC.out]; exact common_eq k a b HT.out hka hkb (fun _ h => absurd h h2))
    go_wp2_with fail
    go_quiet (fail)
    go_wp2_with fail
    go_ret
    exact ⟨by rw [HZ.out]; rfl, _, World.drewN_drewN _ _ _⟩
  ·have d1 : decide ((k : Int) < (a.length : Int)) = false := by simp; omega
   have HZ : Hid (c = k) := Lib.hid (by rw [← HC.out]; exact common_eq k a b HT.out hka hkb (fun h => absurd h h1))
   go_wp2_with fail
   go_quiet (fail)
   go_wp2_with fail
   go_ret
   exact ⟨by rw [HZ.out]; rfl, _, World.drewN_drewN _ _ _⟩
end Go.Proofs.YtjppbomngnomhaaGreatDoor
namespace Go.Proofs.YtjppbomngnomhaaGreatDoor
open Go.RowKit Pl
theorem common_all (p q : Bs) : common p q = p.length ↔ q.take p.length = p := by
 constructor
 ·intro h
  have := common_take p q
  rw [h, List.take_length] at this
  exact this.symm
 ·intro h
  have hl : p.length ≤ q.length := by
   have := congrArg List.length h
   simp at this; omega
  exact common_eq p.length p q (by rw [List.take_length, h]) (Nat.le_refl _) hl (fun h1 => absurd h1 (Nat.lt_irrefl _))
theorem look_miss (t : Tri) (q : Bs) (h : common (pathT t) q ≠ (pathT t).length) : Pl.look t q = [] := by
 rw [Ne, common_all] at h
 cases t with
 | nil => rfl
 | leaf p v =>
  simp only [pathT] at h
  simp only [Pl.look]
  rw [if_neg]
  intro e
  subst e
  simp at h
 | ext p t =>
  simp only [pathT] at h
  simp only [Pl.look]
  rw [if_neg h]
 | br v kids => simp [pathT] at h
theorem look_ext (t : Tri) (q : Bs) (hk : kindT t = 2) (h : common (pathT t) q = (pathT t).length) : Pl.look t q = Pl.look (kidsOf t 0) (q.drop (pathT t).length) := by
 rw [common_all] at h
 cases t with
 | ext p t =>
  simp only [pathT] at h
  simp only [Pl.look, kidsOf, updT, pathT]
  rw [if_pos h]
  simp
 | nil => simp [kindT] at hk
 | leaf p v => simp [kindT] at hk
 | br v kids => simp [kindT] at hk
theorem look_end (t : Tri) (q : Bs) (hk : kindT t ≠ 2) (h : common (pathT t) q = (pathT t).length) (hd : q.drop (pathT t).length = []) : Pl.look t q = valT t := by
 rw [common_all] at h
 cases t with
 | ext p t => simp [kindT] at hk
 | nil => rfl
 | leaf p v =>
  simp only [pathT] at h hd
  have e : q = p := by
   conv => lhs; rw [← List.take_append_drop p.length q, h, hd, List.append_nil]
  simp [Pl.look, valT, e]
 | br v kids =>
  simp only [pathT] at hd
  have e : q = [] := by simpa using hd
  simp [Pl.look, valT, e]
theorem look_on (t : Tri) (q : Bs) (a : UInt8) (r : Bs) (hk : kindT t ≠ 2) (h : common (pathT t) q = (pathT t).length) (hd : q.drop (pathT t).length = a :: r) : Pl.look t q = Pl.look (kidsOf t a.toNat) r := by
 rw [common_all] at h
 cases t with
 | ext p t => simp [kindT] at hk
 | nil => rfl
 | leaf p v =>
  simp only [pathT] at h hd
  have e : q ≠ p := by intro e; subst e; simp at hd
  simp [Pl.look, kidsOf, noT, e]
 | br v kids =>
  simp only [pathT] at hd
  have e : q = a :: r := by simpa using hd
  subst e
  rfl
theorem okT_path (t : Tri) (n : Nat) (h : okT t n) : (pathT t).length ≤ n ∧ fit (pathT t) = true ∧ (kindT t = 2 → pathT t ≠ []) := by
 cases t with
 | nil => simp [pathT, kindT, fit]
 | leaf p v => exact ⟨h.2, h.1, by simp [kindT]⟩
 | ext p t => exact ⟨h.2.1, h.1, fun _ => h.2.2.1.2⟩
 | br v kids => simp [pathT, kindT, fit]
theorem okT_kid (t : Tri) (n : Nat) (h : okT t n) (i : Nat) : okT (kidsOf t i) n := by
 cases t with
 | nil => trivial
 | leaf p v => trivial
 | ext p t =>
  simp only [kidsOf, updT]
  split
  ·exact okT_mono _ _ _ (by omega) h.2.2.2
  ·trivial
 | br v kids =>
  rcases h i with h | ⟨_, _, h⟩
  ·show okT (kids i) n
   rw [h]; trivial
  ·exact okT_mono _ _ _ (by omega) h
theorem kn_ptr {w : World} {b : Nat} {kind : Int} {path val : Bs} {f : Nat → Bs} {ps : Ps} {t s : Bs} {m : Int} (h : Blk w b (kn kind path val f ps t s m).toArray) (k : Nat) (hk : k < 16) : w.cell? ⟨b, 19 + k, none⟩ = some (ptV (ps k)) :=
 (h.cell (19 + k)).trans (pk_pre _ _ _ _ _ _ _ _ k _ (pk_at ps k hk))
def strL : Value → Nat
 | .string s => s.size
 | _ => 0
theorem get_any (t : Tri) (n : Nat) (hn : n ≤ 1000) (p : Option Nat) (q : Bs) (hq : q.length ≤ 100000) (hf : fit q = true) (ho : okT t n) (w : World) (hT : KAt w t p) :
  Calls Tryz.prog 47 #[ptV p, .string ⟨List.toArray q⟩] w fun e w' => e = .returned (.string ⟨List.toArray (Pl.look t q)⟩) ∧ ∃ n, w' = w.drewN n := by
 generalize hz : Pl.look t q = z
 have HZ := Lib.hid hz
 clear hz
 go_enter Tryz.func47, Tryz.ntmps47
 go_wp2_with fail
 go_loopw [0, 1] (fun s0 s1 wr => ∃ (t' : Tri) (p' : Option Nat) (q' : Bs), s0 = ptV p' ∧ s1 = .string ⟨List.toArray q'⟩ ∧ q'.length ≤ 100000 ∧ Hid (KAt w t' p') ∧ Hid (okT t' n) ∧ Hid (fit q' = true) ∧ Hid (Pl.look t' q' = z) ∧ ∃ n, wr = w.drewN n) (fun _ s1 _ => strL s1)
 case atStart => exact ⟨t, p, q, rfl, rfl, hq, Lib.hid hT, Lib.hid ho, Lib.hid hf, HZ, 0, rfl⟩
 case round =>
  obtain ⟨t', p', q', rfl, rfl, hq', HT, HOK, HF, HL, m, rfl⟩ := hrel
  clear HZ hT ho hf
  rcases p' with _ | b
  ·have HE : Hid (z = []) := Lib.hid (by rw [← HL.out, HT.out.none']; rfl)
   go_wp2_with fail
   go_ret
   exact ⟨by rw [HE.out]; rfl, m, rfl⟩
  ·obtain ⟨hne, ps, hps, ⟨c0, c1, c2, _, _, _, c6⟩, hB⟩ := HT.out.open
   obtain ⟨o1, o2, o3⟩ := okT_path t' n HOK.out
   have hcl := common_le (pathT t') q'
   have hcm := fun W => ncommon_any (pathT t') q' (by omega) (by omega) W
   have HM := Lib.hid (look_miss t' q')
   have HX := Lib.hid (look_ext t' q')
   have HN := Lib.hid (look_end t' q')
   have HO := Lib.hid (look_on t' q')
   have HK := Lib.hid (fun i => okT_kid t' n HOK.out i)
   have HP := Lib.hid hps
   have HB := Lib.hid (fun k (h : k < 16) => kn_ptr hB k h)
   have HQ := Lib.hid o3
   clear hps hB hne o2 o3
   generalize kindT t' = kd at *
   generalize valT t' = vt at *
   generalize pathT t' = pt at *
   generalize common pt q' = c at *
   have HCM := Lib.hid hcm
   clear hcm
   by_cases h1 : c = pt.length
   ·subst h1
    have d1 : decide ((pt.length : Int) < (pt.length : Int)) = false := by simp
    have hdl : (q'.drop pt.length).length = q'.length - pt.length := List.length_drop
    have HF2 := Lib.hid (fit_split q' pt.length HF.out).2
    have hst : List.take (q'.length - pt.length) (q'.drop pt.length) = q'.drop pt.length := List.take_of_length_le (by omega)
    by_cases h2 : kd = 2
    ·have HE := Lib.hid (HX.out h2 rfl)
     have hp1 : 1 ≤ pt.length := by
      rcases Nat.eq_zero_or_pos pt.length with h | h
      ·exact absurd (List.length_eq_zero_iff.1 h) (HQ.out h2)
      ·exact h
     have hk2 : (kd == 2) = true := by simpa using h2
     clear h2 HM HN HO HX
     go_wp2_with fail
     refine (HCM.out _).mono ?_
     rintro e w2 ⟨rfl, n2, rfl⟩
     go_wp2_with fail
     exact ⟨⟨kidsOf t' 0, ps 0, q'.drop pt.length, rfl, by simp, by omega, Lib.hid (HP.out 0 (by omega)), Lib.hid (HK.out 0), HF2, Lib.hid (by rw [← HE.out]; exact HL.out), _, rfl⟩, by simp [strL, ByteArray.size]; omega⟩
    ·have hk2 : (kd == 2) = false := by simpa using h2
     cases hd : q'.drop pt.length with
     | nil =>
      rw [hd] at hst
      have HE : Hid (z = vt) := Lib.hid (by rw [← HL.out]; exact HN.out h2 rfl hd)
      clear h2 HM HN HO HX
      go_wp2_with fail
      refine (HCM.out _).mono ?_
      rintro e w2 ⟨rfl, n2, rfl⟩
      go_wp2_with fail
      go_ret
      exact ⟨by rw [HE.out]; rfl, _, rfl⟩
     | cons a r =>
      rw [hd] at hst
      have HE := Lib.hid (HO.out a r h2 rfl hd)
      have hfa := (fit_cons a r).1 (by rw [← hd]; exact HF2.out)
      obtain ⟨ha, hfr⟩ := hfa
      have HFR := Lib.hid hfr
      have hb := HB.out a.toNat ha
      have i1 : 0 ≤ (a.toNat : Int) ∧ (a.toNat : Int) < 16 := by omega
      have hln : r.length + 1 ≤ q'.length := by
       have := congrArg List.length hd
       simp at this; omega
      have hpa := HP.out a.toNat ha
      have HPA := Lib.hid hpa
      clear h2 HM HN HO HX hfr hpa hdl
      go_wp2_with fail
      refine (HCM.out _).mono ?_
      rintro e w2 ⟨rfl, n2, rfl⟩
      go_wp2_with fail
      go_quiet (fail)
      go_wp2_with fail
      exact ⟨⟨kidsOf t' a.toNat, ps a.toNat, r, rfl, by simp, by omega, HPA, Lib.hid (HK.out _), HFR, Lib.hid (by rw [← HE.out]; exact HL.out), _, rfl⟩, by simp [strL, ByteArray.size]; omega⟩
   ·have d1 : decide ((c : Int) < (pt.length : Int)) = true := by simp; omega
    have HE : Hid (z = []) := Lib.hid (by rw [← HL.out]; exact HM.out h1)
    clear HM HN HO HX
    go_wp2_with fail
    refine (HCM.out _).mono ?_
    rintro e w2 ⟨rfl, n2, rfl⟩
    go_wp2_with fail
    go_ret
    exact ⟨by rw [HE.out]; rfl, _, rfl⟩
end Go.Proofs.YtjppbomngnomhaaGreatDoor
namespace Go.Proofs.YtjppbomngnomhaaGreatDoor
open Go.RowKit
theorem wpH_startB {P : Program} {id : Nat} {ops : Array Oper} {Q : Exit → Act → World → Prop} {a : Act} {w : World} (B : Nat) (hm : P.follows .mixedOrders = true)
  (h : Below B w w.drew → wpAnyH P .any ops Q (Below B w) ops.size (Array.replicate ops.size false) a w.drew) : (Code.region id ops true).wp P Q a w :=
 wp_region_held_drew hm (Below.refl _ _).drew h
theorem wpO_op {P : Program} {ops : Array Oper} {Q : Exit → Act → World → Prop} {a : Act} {w : World} {K : Act → World → Prop} {i : Nat} {oi : Oper} (hi : ops[i]? = some oi) (hw : Region.wanted oi (yielded ops a.tmps) = true) (h : oi.wp P a w K Q) : wpOp P ops Q i K a w := by
 unfold wpOp
 simp only [hi, hw, if_true]
 exact .inl h
theorem wp_allocK {P : Program} {o : Oper} {a : Act} {w : World} {K : Act → World → Prop} {Q : Exit → Act → World → Prop} (t : TypeId) (ho : o.op = .alloc t) (z : Array Value) (hz : ∀ w : World, (execOp a.eval o).run P w = .ok (.value (.pointer (some ⟨w.heap.size, 0, none⟩))) (w.alloc (.cells z t)))
  (h : ∀ k w', w.heap.size ≤ k → Blk w' k z → Below w.heap.size w w' → K (a.put o.dst (.pointer (some ⟨k, 0, none⟩))) w') : o.wp P a w K Q := by
 unfold Oper.wp
 rw [hz w]
 exact h _ _ (Nat.le_refl _) (Blk.new _ _ _) (Below.allocS (Below.refl _ _) _)
theorem wp_newK {P : Program} {o : Oper} {a : Act} {w : World} {K : Act → World → Prop} {Q : Exit → Act → World → Prop} (t : TypeId) (z : Array Value) (u : Nat → Value) (hz : ∀ w : World, (execOp a.eval o).run P w = .ok (.value (u w.heap.size)) (w.alloc (.cells z t)))
  (h : ∀ k w', w.heap.size ≤ k → w'.heap[k]? = some (.cells z t) → k < w'.heap.size → Below w.heap.size w w' → K (a.put o.dst (u k)) w') : o.wp P a w K Q := by
 unfold Oper.wp
 rw [hz w]
 exact h _ _ (Nat.le_refl _) (heap_alloc_new w _) (by simp) (Below.allocS (Below.refl _ _) _)
theorem Blk.of_heap {w : World} {k : Nat} {z : Array Value} {t : TypeId} (hh : w.heap[k]? = some (.cells z t)) (hk : k < w.heap.size) : Blk w k z :=
 ⟨fun o => by simp [World.cell?, hh], fun o => by simp [World.frozen?, hh], hk⟩
end Go.Proofs.YtjppbomngnomhaaGreatDoor
