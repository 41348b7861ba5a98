/- Decode, SNode, Eats1, Eats. -/
import Derived.Test.YtjppbomngnomhaaGreatDoorMx14
set_option linter.unnecessarySimpa false
set_option linter.unusedSimpArgs false
set_option linter.unusedVariables false
set_option maxRecDepth 100000
set_option maxHeartbeats 32000000
namespace Go.Proofs.YtjppbomngnomhaaGreatDoor
open Go.RowKit Pl
theorem Mod.setCells (b : Nat) : ∀ (vs : List Value) (o : Nat) (w : World), Mod [b] w (w.setCells b o vs)
 | [], _, w => Mod.refl _ _
 | v :: r, o, w => by
  rw [World.setCells]
  exact ((Mod.refl _ w).setCell (.inl (by simp)) v).trans (Mod.setCells b r (o + 1) _)
theorem nd_one (kind : Int) (path val : Bs) (kid : Nat → Bs) : ∀ v ∈ nd kind path val kid, v.oneCell' = true := by
 intro v hv
 simp [nd, ka] at hv
 rcases hv with rfl | rfl | rfl | ⟨c, _, rfl⟩ <;> rfl
section
variable {ops : Array Oper} {rest : List Oper} {op : Oper} {a : Act} {w : World} {Q : Exit → Act → World → Prop}
theorem wpList_nodeG (hw : Region.wanted op (yielded ops a.tmps) = true) (x : Operand) (ho : op.op = .load 76 x) {b : Nat} (hx : a.eval x = .pointer (some ⟨b, 0, none⟩)) {kind : Int} {path val : Bs} {kid : Nat → Bs} (hB : Blk w b (nd kind path val kid).toArray)
  (h : wpList Tryz.prog ops Q rest (a.put op.dst (.agg (nd kind path val kid).toArray)) w) : wpList Tryz.prog ops Q (op :: rest) a w :=
 wpList_step fun K hK => by
  rw [if_pos hw]
  exact wp_load_mid 76 x ho b 0 hx (nd kind path val kid) _ (nd_range hB) Tryz.underlying76 rfl (by rw [nd_len]; exact nd_info) (hK _ _ h)
theorem wpList_nodeStore (hgd : op.guard = none) (hd : op.dst = none) (x y : Operand) (ho : op.op = .store 76 x y) {b : Nat} (hx : a.eval x = .pointer (some ⟨b, 0, none⟩)) {kind : Int} {path val : Bs} {kid : Nat → Bs} (hy : a.eval y = .agg (nd kind path val kid).toArray)
  {k2 : Int} {p2 v2 : Bs} {kid2 : Nat → Bs} (hB : Blk w b (nd k2 p2 v2 kid2).toArray)
  (h : ∀ w', Blk w' b (nd kind path val kid).toArray → Mod [b] w w' → wpList Tryz.prog ops Q rest a w') : wpList Tryz.prog ops Q (op :: rest) a w := by
 have ht : w.there b 0 (nd kind path val kid).length := fun j hj => by
  rw [Nat.zero_add, hB.cell, hB.froz]
  rw [nd_len] at hj
  simp [nd_len]; omega
 refine wpList_store_mid hgd 76 x y ho b 0 _ hx hy (by simpa using ht) (by rw [nd_size]; exact nd_info) (all_oneCell_toArray (nd_one _ _ _ _)) ?_
 rw [hd]
 refine h _ ⟨fun o => ?_, fun o => by rw [World.frozen?_setCells]; exact hB.froz o, ?_⟩ (Mod.setCells b _ 0 w)
 ·by_cases ho : o < (nd kind path val kid).length
  ·have := World.cell?_setCells_in b (nd kind path val kid) 0 w (fun i hi => (ht i hi).1) o ho
   rw [Nat.zero_add] at this
   simp only [List.getElem?_toArray]
   rw [List.getElem?_eq_getElem ho]
   exact this
  ·rw [World.cell?_setCells_out b _ 0 w _ (fun _ _ => .inr (by simp at ho ⊢; omega)), hB.cell]
   simp [nd_len] at ho ⊢
   rw [List.getElem?_eq_none (by simp [nd_len]; omega), List.getElem?_eq_none (by simp [nd_len]; omega)]
 ·exact Nat.lt_of_lt_of_le hB.lt (Mod.setCells b _ 0 w).size
end
theorem zero_node : (nd 0 [] [] noK).toArray = #[.int .i64 0, .string ⟨List.toArray []⟩, .string ⟨List.toArray []⟩, .string ⟨List.toArray []⟩, .string ⟨List.toArray []⟩, .string ⟨List.toArray []⟩, .string ⟨List.toArray []⟩, .string ⟨List.toArray []⟩, .string ⟨List.toArray []⟩, .string ⟨List.toArray []⟩, .string ⟨List.toArray []⟩, .string ⟨List.toArray []⟩, .string ⟨List.toArray []⟩, .string ⟨List.toArray []⟩, .string ⟨List.toArray []⟩, .string ⟨List.toArray []⟩, .string ⟨List.toArray []⟩, .string ⟨List.toArray []⟩, .string ⟨List.toArray []⟩] := rfl
theorem results_cell_tmp {P : Program} {fn : Func} {a b : Nat} {t : TypeId} (h : fn.results = #[.cell a t, .tmp b]) (tmps : Array Value) (w : World) (p : Addr) (v : Value) (hp : tmps.getD a undef = .pointer (some p)) (hl : (loadVar t p).run P w = .ok v w) :
  (results fn tmps).run P w = .ok (.tuple #[v, tmps.getD b undef]) w := by
 unfold results
 rw [h]
 rw [Array.getD_eq_getD_getElem?] at hp
 simp [hp, asAddr, hl, Sem.run_bind]
theorem dec_nil (w : World) :
  Calls Tryz.prog 90 #[.string ⟨List.toArray []⟩] w fun e w' => e = .returned (.tuple #[.agg (nd 0 ([]) ([]) noK).toArray, .int .i64 80]) ∧ Below w.heap.size w w' := by
 have hl : List.length ([] : Bs) ≤ 9223372036854775807 := by first | assumption | (simp; done)
 have hQ0 := Blk.new w (nd 0 [] [] noK).toArray 76
 have hb0 : Below w.heap.size w (w.alloc (.cells (nd 0 [] [] noK).toArray 76)) := Below.allocS (Below.refl _ _) _
 rw [zero_node] at hb0 hQ0
 go_enter Tryz.func90, Tryz.ntmps90
 go_wp2_with fail
 refine (readNew ([]) _).mono ?_
 rintro e w1 ⟨rfl, hw1⟩
 have hR1 : Rdr w1 (w.heap.size + 1) ([]) 0 := by
  subst hw1
  have := Rdr.new (w := w.alloc (.cells (nd 0 [] [] noK).toArray 76)) (t := 178) hl
  rw [zero_node] at this
  simpa using this
 have hQ1 : Blk w1 w.heap.size #[.int .i64 0, .string ⟨List.toArray []⟩, .string ⟨List.toArray []⟩, .string ⟨List.toArray []⟩, .string ⟨List.toArray []⟩, .string ⟨List.toArray []⟩, .string ⟨List.toArray []⟩, .string ⟨List.toArray []⟩, .string ⟨List.toArray []⟩, .string ⟨List.toArray []⟩, .string ⟨List.toArray []⟩, .string ⟨List.toArray []⟩, .string ⟨List.toArray []⟩, .string ⟨List.toArray []⟩, .string ⟨List.toArray []⟩, .string ⟨List.toArray []⟩, .string ⟨List.toArray []⟩, .string ⟨List.toArray []⟩, .string ⟨List.toArray []⟩] := by subst hw1; exact hQ0.alloc _
 rw [← zero_node] at hQ1
 have hb1 : Below w.heap.size w w1 := by subst hw1; exact Below.allocS hb0 _
 have hs1 : w1.heap.size = w.heap.size + 2 := by subst hw1; simp
 clear hw1 hb0 hQ0 hl
 go_wp2_with fail
 have hN1 := Blk.new w1 (nd 0 [] [] noK).toArray 76
 rw [zero_node] at hN1
 have hR2 := hR1.alloc (.cells #[.int .i64 0, .string ⟨List.toArray []⟩, .string ⟨List.toArray []⟩, .string ⟨List.toArray []⟩, .string ⟨List.toArray []⟩, .string ⟨List.toArray []⟩, .string ⟨List.toArray []⟩, .string ⟨List.toArray []⟩, .string ⟨List.toArray []⟩, .string ⟨List.toArray []⟩, .string ⟨List.toArray []⟩, .string ⟨List.toArray []⟩, .string ⟨List.toArray []⟩, .string ⟨List.toArray []⟩, .string ⟨List.toArray []⟩, .string ⟨List.toArray []⟩, .string ⟨List.toArray []⟩, .string ⟨List.toArray []⟩, .string ⟨List.toArray []⟩] 76)
 have hQ2 := hQ1.alloc (.cells #[.int .i64 0, .string ⟨List.toArray []⟩, .string ⟨List.toArray []⟩, .string ⟨List.toArray []⟩, .string ⟨List.toArray []⟩, .string ⟨List.toArray []⟩, .string ⟨List.toArray []⟩, .string ⟨List.toArray []⟩, .string ⟨List.toArray []⟩, .string ⟨List.toArray []⟩, .string ⟨List.toArray []⟩, .string ⟨List.toArray []⟩, .string ⟨List.toArray []⟩, .string ⟨List.toArray []⟩, .string ⟨List.toArray []⟩, .string ⟨List.toArray []⟩, .string ⟨List.toArray []⟩, .string ⟨List.toArray []⟩, .string ⟨List.toArray []⟩] 76)
 have hb2 := Below.allocS hb1 (.cells #[.int .i64 0, .string ⟨List.toArray []⟩, .string ⟨List.toArray []⟩, .string ⟨List.toArray []⟩, .string ⟨List.toArray []⟩, .string ⟨List.toArray []⟩, .string ⟨List.toArray []⟩, .string ⟨List.toArray []⟩, .string ⟨List.toArray []⟩, .string ⟨List.toArray []⟩, .string ⟨List.toArray []⟩, .string ⟨List.toArray []⟩, .string ⟨List.toArray []⟩, .string ⟨List.toArray []⟩, .string ⟨List.toArray []⟩, .string ⟨List.toArray []⟩, .string ⟨List.toArray []⟩, .string ⟨List.toArray []⟩, .string ⟨List.toArray []⟩] 76)
 rw [← zero_node] at hN1
 refine (bytes_any ([]) 0 1 (w.heap.size + 1) _ (by omega) hR2).mono ?_
 rintro e w2 ⟨rfl, R, m2⟩
 have N := hN1.mod m2 (by simp; omega)
 have Q := hQ2.mod m2 (by simp)
 have hb := Below.mod hb2 m2 (by simp; omega) (by simp)
 have hs2 : w.heap.size + 2 < w2.heap.size := by have := N.lt; omega
 generalize hq : w1.heap.size = q at *
 clear m2 hN1 hQ2 hb2 hR2 hQ1 hb1 hR1 hq
 subst hs1
 rw [show mBytes [] 0 1 = ([], [], 20) from rfl] at R ⊢
 obtain ⟨b1, b2, b3⟩ := id N
 go_wp2_with fail
 refine (other_ext [] 20 0 rfl (w.heap.size + 1) (w.heap.size + 2) (by omega) _ R N).mono ?_
 rw [show mText [] 20 16 = ([], [], 20) from rfl, show unpack [] = ([], false, 3) from rfl, show mBytes [] 20 32 = ([], [], 20) from rfl]
 rintro e w3 ⟨rfl, R3, N3, m3⟩
 have Q3 := Q.mod m3 (by simp)
 have hb3 := Below.mod hb m3 (by omega) (by simp)
 clear b1 b2 b3 R N Q hb
 obtain ⟨b1, b2, b3⟩ := id N3
 go_wp2_with fail
 refine (rend_any [] 20 (w.heap.size + 1) _ R3).mono ?_
 rintro e w4 ⟨rfl, m4⟩
 have Q4 := Q3.mod m4 (by simp)
 have hb4 := Below.mod hb3 m4 (by have := m3.size; omega) (by simp)
 rw [show mEnd [] 20 = 20 from rfl]
 go_wp2_with (refine wpList_nodeStore rfl rfl (.tmp 2) (.tmp 37) rfl rfl (kind := 0) (path := []) (val := []) (kid := noK) rfl Q4 ?_; intro w5 Q5 m5)
 have hld := run_loadVar_mid (P := Tryz.prog) w5 w.heap.size 0 76 _ _ (nd_range Q5) Tryz.underlying76 rfl (by rw [nd_len]; exact nd_info)
 refine bodyPost_ret (results_cell_tmp rfl _ _ _ _ rfl hld) rfl ?_
 exact ⟨rfl, (Below.mod hb4 m5 (by have := m3.size; have := m4.size; omega) (by simp))⟩
theorem mBytes_one (k : UInt8) (r : Bs) : mBytes (k :: r) 0 1 = ([k], r, 0) := by
 unfold mBytes
 rw [if_neg (by simp), if_neg (by omega), if_neg (by simp; omega)]
 simp
theorem dec_leaf (r : Bs) (hl : (1 :: r : Bs).length ≤ 9223372036854775807) (w : World) :
  Calls Tryz.prog 90 #[.string ⟨List.toArray (1 :: r)⟩] w fun e w' => e = .returned (.tuple #[.agg (nd ((dec (1 :: r)).1.kind) ((dec (1 :: r)).1.path) ((dec (1 :: r)).1.val) ((dec (1 :: r)).1.kid)).toArray, .int .i64 ((dec (1 :: r)).2)]) ∧ Below w.heap.size w w' := by
 rw [show dec (1 :: r) = decEnd (rdL r 0) (decide ((unpack (mText r 0 16).1).2.2 = 0) && (unpack (mText r 0 16).1).2.1) from by simp [dec]]
 generalize hx : rdL r 0 = x
 generalize hf : (decide ((unpack (mText r 0 16).1).2.2 = 0) && (unpack (mText r 0 16).1).2.1) = f
 have hx' : x.1.kind = 1 := by subst hx; rfl
 have HX := Lib.hid hx
 have HF := Lib.hid hf
 clear hx hf
 generalize hd : decEnd x f = d
 have HD := Lib.hid hd
 clear hd
 have hl : List.length (1 :: r : Bs) ≤ 9223372036854775807 := by first | assumption | (simp; done)
 have hQ0 := Blk.new w (nd 0 [] [] noK).toArray 76
 have hb0 : Below w.heap.size w (w.alloc (.cells (nd 0 [] [] noK).toArray 76)) := Below.allocS (Below.refl _ _) _
 rw [zero_node] at hb0 hQ0
 go_enter Tryz.func90, Tryz.ntmps90
 go_wp2_with fail
 refine (readNew (1 :: r) _).mono ?_
 rintro e w1 ⟨rfl, hw1⟩
 have hR1 : Rdr w1 (w.heap.size + 1) (1 :: r) 0 := by
  subst hw1
  have := Rdr.new (w := w.alloc (.cells (nd 0 [] [] noK).toArray 76)) (t := 178) hl
  rw [zero_node] at this
  simpa using this
 have hQ1 : Blk w1 w.heap.size #[.int .i64 0, .string ⟨List.toArray []⟩, .string ⟨List.toArray []⟩, .string ⟨List.toArray []⟩, .string ⟨List.toArray []⟩, .string ⟨List.toArray []⟩, .string ⟨List.toArray []⟩, .string ⟨List.toArray []⟩, .string ⟨List.toArray []⟩, .string ⟨List.toArray []⟩, .string ⟨List.toArray []⟩, .string ⟨List.toArray []⟩, .string ⟨List.toArray []⟩, .string ⟨List.toArray []⟩, .string ⟨List.toArray []⟩, .string ⟨List.toArray []⟩, .string ⟨List.toArray []⟩, .string ⟨List.toArray []⟩, .string ⟨List.toArray []⟩] := by subst hw1; exact hQ0.alloc _
 rw [← zero_node] at hQ1
 have hb1 : Below w.heap.size w w1 := by subst hw1; exact Below.allocS hb0 _
 have hs1 : w1.heap.size = w.heap.size + 2 := by subst hw1; simp
 clear hw1 hb0 hQ0 hl
 go_wp2_with fail
 have hN1 := Blk.new w1 (nd 0 [] [] noK).toArray 76
 rw [zero_node] at hN1
 have hR2 := hR1.alloc (.cells #[.int .i64 0, .string ⟨List.toArray []⟩, .string ⟨List.toArray []⟩, .string ⟨List.toArray []⟩, .string ⟨List.toArray []⟩, .string ⟨List.toArray []⟩, .string ⟨List.toArray []⟩, .string ⟨List.toArray []⟩, .string ⟨List.toArray []⟩, .string ⟨List.toArray []⟩, .string ⟨List.toArray []⟩, .string ⟨List.toArray []⟩, .string ⟨List.toArray []⟩, .string ⟨List.toArray []⟩, .string ⟨List.toArray []⟩, .string ⟨List.toArray []⟩, .string ⟨List.toArray []⟩, .string ⟨List.toArray []⟩, .string ⟨List.toArray []⟩] 76)
 have hQ2 := hQ1.alloc (.cells #[.int .i64 0, .string ⟨List.toArray []⟩, .string ⟨List.toArray []⟩, .string ⟨List.toArray []⟩, .string ⟨List.toArray []⟩, .string ⟨List.toArray []⟩, .string ⟨List.toArray []⟩, .string ⟨List.toArray []⟩, .string ⟨List.toArray []⟩, .string ⟨List.toArray []⟩, .string ⟨List.toArray []⟩, .string ⟨List.toArray []⟩, .string ⟨List.toArray []⟩, .string ⟨List.toArray []⟩, .string ⟨List.toArray []⟩, .string ⟨List.toArray []⟩, .string ⟨List.toArray []⟩, .string ⟨List.toArray []⟩, .string ⟨List.toArray []⟩] 76)
 have hb2 := Below.allocS hb1 (.cells #[.int .i64 0, .string ⟨List.toArray []⟩, .string ⟨List.toArray []⟩, .string ⟨List.toArray []⟩, .string ⟨List.toArray []⟩, .string ⟨List.toArray []⟩, .string ⟨List.toArray []⟩, .string ⟨List.toArray []⟩, .string ⟨List.toArray []⟩, .string ⟨List.toArray []⟩, .string ⟨List.toArray []⟩, .string ⟨List.toArray []⟩, .string ⟨List.toArray []⟩, .string ⟨List.toArray []⟩, .string ⟨List.toArray []⟩, .string ⟨List.toArray []⟩, .string ⟨List.toArray []⟩, .string ⟨List.toArray []⟩, .string ⟨List.toArray []⟩] 76)
 rw [← zero_node] at hN1
 refine (bytes_any (1 :: r) 0 1 (w.heap.size + 1) _ (by omega) hR2).mono ?_
 rintro e w2 ⟨rfl, R, m2⟩
 have N := hN1.mod m2 (by simp; omega)
 have Q := hQ2.mod m2 (by simp)
 have hb := Below.mod hb2 m2 (by simp; omega) (by simp)
 have hs2 : w.heap.size + 2 < w2.heap.size := by have := N.lt; omega
 generalize hq : w1.heap.size = q at *
 clear m2 hN1 hQ2 hb2 hR2 hQ1 hb1 hR1 hq
 subst hs1
 rw [mBytes_one] at R ⊢
 obtain ⟨b1, b2, b3⟩ := id N
 go_wp2_with fail
 have N2 := N.set 0 (.int .i64 1)
 rw [nd_set0] at N2
 refine (other_leaf r 0 (w.heap.size + 1) (w.heap.size + 2) (by omega) _ (R.other (by simp) _) N2).mono ?_
 rw [HF.out]
 rintro e w3 ⟨rfl, R3, N3, m3⟩
 have hpl : x.1.path.length ≤ 9223372036854775807 := by
  rw [← HX.out]
  show (unpack (mText r 0 16).1).1.length ≤ _
  have h1 := mText_len r 0 16 (by omega)
  have h2 := unpack_len (mText r 0 16).1
  omega
 replace R3 : Rdr w3 (w.heap.size + 1) x.2.1 x.2.2 := by rw [← HX.out]; exact R3
 replace N3 : Blk w3 (w.heap.size + 2) (nd x.1.kind x.1.path x.1.val x.1.kid).toArray := by rw [← HX.out]; exact N3
 clear HX HF
 obtain ⟨⟨kd, pa, va, kk⟩, rest, code⟩ := x
 have hk0 : kd = 1 := hx'
 subst hk0
 clear hx'
 have m23 : Mod [w.heap.size + 1, w.heap.size + 2] w2 w3 := ((Mod.refl _ _).setCell (.inl (by simp)) _).trans m3
 have Q3 := Q.mod m23 (by simp)
 have hb3 := Below.mod hb m23 (by omega) (by simp)
 clear m3 m23 N R Q hb N2 b1 b2 b3
 obtain ⟨b1, b2, b3⟩ := id N3
 go_wp2_with fail
 refine (rend_any rest code (w.heap.size + 1) _ R3).mono ?_
 rintro e w4 ⟨rfl, m4⟩
 have N4 := N3.mod m4 (by simp)
 have Q4 := Q3.mod m4 (by simp)
 have hb4 := Below.mod hb3 m4 (by have := N3.lt; omega) (by simp)
 clear b1 b2 b3 N3 Q3 hb3 m4 R3
 obtain ⟨b1, b2, b3⟩ := id N4
 by_cases hE : mEnd rest code = 0
 ·rw [hE]
  cases f
  ·have HZ : Hid (d = (ndZ, 80)) := Lib.hid (by rw [← HD.out, decEnd, if_neg (by simp)])
   go_wp2_with (refine wpList_nodeStore rfl rfl (.tmp 2) (.tmp 37) rfl rfl (kind := 0) (path := []) (val := []) (kid := noK) rfl Q4 ?_; intro wZ QZ mZ)
   have hld := run_loadVar_mid (P := Tryz.prog) wZ w.heap.size 0 76 _ _ (nd_range QZ) Tryz.underlying76 rfl (by rw [nd_len]; exact nd_info)
   refine bodyPost_ret (results_cell_tmp rfl _ _ _ _ rfl hld) rfl ?_
   exact ⟨by first | rfl | (rw [HZ.out]; rfl), Below.mod hb4 mZ (by have := (Q4).lt; omega) (by simp)⟩
  ·go_wp2_with (refine wpList_nodeG ?hw (.tmp 5) rfl rfl N4 ?_; (case hw => rfl))
   refine (check_any (1) pa va kk hpl _).mono ?_
   rintro e w5 ⟨rfl, hbc⟩
   have N5 := N4.keep hbc
   have Q5 := Q4.keep hbc
   have hb5 := hb4.trans (hbc.mono hb4.size)
   clear b1 b2 b3
   cases hc : chk (1) pa va kk
   ·have HZ : Hid (d = (ndZ, 80)) := Lib.hid (by rw [← HD.out, decEnd, if_neg (by simp [hc])])
    rw [show chkI false = 80 from rfl]
    go_wp2_with (refine wpList_nodeStore rfl rfl (.tmp 2) (.tmp 37) rfl rfl (kind := 0) (path := []) (val := []) (kid := noK) rfl Q5 ?_; intro wZ QZ mZ)
    have hld := run_loadVar_mid (P := Tryz.prog) wZ w.heap.size 0 76 _ _ (nd_range QZ) Tryz.underlying76 rfl (by rw [nd_len]; exact nd_info)
    refine bodyPost_ret (results_cell_tmp rfl _ _ _ _ rfl hld) rfl ?_
    exact ⟨by first | rfl | (rw [HZ.out]; rfl), Below.mod hb5 mZ (by have := (Q5).lt; omega) (by simp)⟩
   ·have HZ : Hid (d = (⟨1, pa, va, kk⟩, 0)) := Lib.hid (by rw [← HD.out, decEnd, if_pos ⟨hE, rfl, hc⟩])
    rw [show chkI true = 0 from rfl]
    go_wp2_with (first | (refine wpList_node rfl (.tmp 5) rfl rfl N5 ?_) | (refine wpList_nodeStore rfl rfl (.tmp 2) (.tmp 38) rfl rfl (kind := 1) (path := pa) (val := va) (kid := kk) rfl Q5 ?_; intro w6 Q6 m6))
    have hld := run_loadVar_mid (P := Tryz.prog) w6 w.heap.size 0 76 _ _ (nd_range Q6) Tryz.underlying76 rfl (by rw [nd_len]; exact nd_info)
    refine bodyPost_ret (results_cell_tmp rfl _ _ _ _ rfl hld) rfl ?_
    exact ⟨by rw [HZ.out]; rfl, Below.mod hb5 m6 (by have := Q5.lt; omega) (by simp)⟩
 ·have hE2 : (mEnd rest code == 0) = false := by simpa using hE
  have hE3 : (mEnd rest code != 0) = true := by simpa using hE
  have HZ : Hid (d = (ndZ, 80)) := Lib.hid (by rw [← HD.out, decEnd, if_neg (fun h => hE h.1)])
  clear hE
  generalize mEnd rest code = ec at *
  go_wp2_with (refine wpList_nodeStore rfl rfl (.tmp 2) (.tmp 37) rfl rfl (kind := 0) (path := []) (val := []) (kid := noK) rfl Q4 ?_; intro wZ QZ mZ)
  have hld := run_loadVar_mid (P := Tryz.prog) wZ w.heap.size 0 76 _ _ (nd_range QZ) Tryz.underlying76 rfl (by rw [nd_len]; exact nd_info)
  refine bodyPost_ret (results_cell_tmp rfl _ _ _ _ rfl hld) rfl ?_
  exact ⟨by first | rfl | (rw [HZ.out]; rfl), Below.mod hb4 mZ (by have := (Q4).lt; omega) (by simp)⟩
theorem dec_ext (k : UInt8) (hk1 : k ≠ 1) (hk3 : k ≠ 3) (r : Bs) (hl : (k :: r : Bs).length ≤ 9223372036854775807) (w : World) :
  Calls Tryz.prog 90 #[.string ⟨List.toArray (k :: r)⟩] w fun e w' => e = .returned (.tuple #[.agg (nd ((dec (k :: r)).1.kind) ((dec (k :: r)).1.path) ((dec (k :: r)).1.val) ((dec (k :: r)).1.kid)).toArray, .int .i64 ((dec (k :: r)).2)]) ∧ Below w.heap.size w w' := by
 rw [show dec (k :: r) = decEnd (rdE k.toNat r 0) (decide ((unpack (mText r 0 16).1).2.2 = 0) && !(unpack (mText r 0 16).1).2.1) from by simp [dec, hk1, hk3]]
 have hn1 : k.toNat ≠ 1 := fun h => hk1 (by rw [← UInt8.toNat_inj]; exact h)
 have hn3 : k.toNat ≠ 3 := fun h => hk3 (by rw [← UInt8.toNat_inj]; exact h)
 have hnl := k.toNat_lt
 have hk1b : ((k.toNat : Int) == 1) = false := by simp; omega
 have hk3b : ((k.toNat : Int) == 3) = false := by simp; omega
 clear hk1 hk3
 generalize hx : rdE k.toNat r 0 = x
 generalize hf : (decide ((unpack (mText r 0 16).1).2.2 = 0) && !(unpack (mText r 0 16).1).2.1) = f
 have hx' : x.1.kind = (k.toNat : Int) := by subst hx; rfl
 have HX := Lib.hid hx
 have HF := Lib.hid hf
 clear hx hf
 generalize hd : decEnd x f = d
 have HD := Lib.hid hd
 clear hd
 have hl : List.length (k :: r : Bs) ≤ 9223372036854775807 := by first | assumption | (simp; done)
 have hQ0 := Blk.new w (nd 0 [] [] noK).toArray 76
 have hb0 : Below w.heap.size w (w.alloc (.cells (nd 0 [] [] noK).toArray 76)) := Below.allocS (Below.refl _ _) _
 rw [zero_node] at hb0 hQ0
 go_enter Tryz.func90, Tryz.ntmps90
 go_wp2_with fail
 refine (readNew (k :: r) _).mono ?_
 rintro e w1 ⟨rfl, hw1⟩
 have hR1 : Rdr w1 (w.heap.size + 1) (k :: r) 0 := by
  subst hw1
  have := Rdr.new (w := w.alloc (.cells (nd 0 [] [] noK).toArray 76)) (t := 178) hl
  rw [zero_node] at this
  simpa using this
 have hQ1 : Blk w1 w.heap.size #[.int .i64 0, .string ⟨List.toArray []⟩, .string ⟨List.toArray []⟩, .string ⟨List.toArray []⟩, .string ⟨List.toArray []⟩, .string ⟨List.toArray []⟩, .string ⟨List.toArray []⟩, .string ⟨List.toArray []⟩, .string ⟨List.toArray []⟩, .string ⟨List.toArray []⟩, .string ⟨List.toArray []⟩, .string ⟨List.toArray []⟩, .string ⟨List.toArray []⟩, .string ⟨List.toArray []⟩, .string ⟨List.toArray []⟩, .string ⟨List.toArray []⟩, .string ⟨List.toArray []⟩, .string ⟨List.toArray []⟩, .string ⟨List.toArray []⟩] := by subst hw1; exact hQ0.alloc _
 rw [← zero_node] at hQ1
 have hb1 : Below w.heap.size w w1 := by subst hw1; exact Below.allocS hb0 _
 have hs1 : w1.heap.size = w.heap.size + 2 := by subst hw1; simp
 clear hw1 hb0 hQ0 hl
 go_wp2_with fail
 have hN1 := Blk.new w1 (nd 0 [] [] noK).toArray 76
 rw [zero_node] at hN1
 have hR2 := hR1.alloc (.cells #[.int .i64 0, .string ⟨List.toArray []⟩, .string ⟨List.toArray []⟩, .string ⟨List.toArray []⟩, .string ⟨List.toArray []⟩, .string ⟨List.toArray []⟩, .string ⟨List.toArray []⟩, .string ⟨List.toArray []⟩, .string ⟨List.toArray []⟩, .string ⟨List.toArray []⟩, .string ⟨List.toArray []⟩, .string ⟨List.toArray []⟩, .string ⟨List.toArray []⟩, .string ⟨List.toArray []⟩, .string ⟨List.toArray []⟩, .string ⟨List.toArray []⟩, .string ⟨List.toArray []⟩, .string ⟨List.toArray []⟩, .string ⟨List.toArray []⟩] 76)
 have hQ2 := hQ1.alloc (.cells #[.int .i64 0, .string ⟨List.toArray []⟩, .string ⟨List.toArray []⟩, .string ⟨List.toArray []⟩, .string ⟨List.toArray []⟩, .string ⟨List.toArray []⟩, .string ⟨List.toArray []⟩, .string ⟨List.toArray []⟩, .string ⟨List.toArray []⟩, .string ⟨List.toArray []⟩, .string ⟨List.toArray []⟩, .string ⟨List.toArray []⟩, .string ⟨List.toArray []⟩, .string ⟨List.toArray []⟩, .string ⟨List.toArray []⟩, .string ⟨List.toArray []⟩, .string ⟨List.toArray []⟩, .string ⟨List.toArray []⟩, .string ⟨List.toArray []⟩] 76)
 have hb2 := Below.allocS hb1 (.cells #[.int .i64 0, .string ⟨List.toArray []⟩, .string ⟨List.toArray []⟩, .string ⟨List.toArray []⟩, .string ⟨List.toArray []⟩, .string ⟨List.toArray []⟩, .string ⟨List.toArray []⟩, .string ⟨List.toArray []⟩, .string ⟨List.toArray []⟩, .string ⟨List.toArray []⟩, .string ⟨List.toArray []⟩, .string ⟨List.toArray []⟩, .string ⟨List.toArray []⟩, .string ⟨List.toArray []⟩, .string ⟨List.toArray []⟩, .string ⟨List.toArray []⟩, .string ⟨List.toArray []⟩, .string ⟨List.toArray []⟩, .string ⟨List.toArray []⟩] 76)
 rw [← zero_node] at hN1
 refine (bytes_any (k :: r) 0 1 (w.heap.size + 1) _ (by omega) hR2).mono ?_
 rintro e w2 ⟨rfl, R, m2⟩
 have N := hN1.mod m2 (by simp; omega)
 have Q := hQ2.mod m2 (by simp)
 have hb := Below.mod hb2 m2 (by simp; omega) (by simp)
 have hs2 : w.heap.size + 2 < w2.heap.size := by have := N.lt; omega
 generalize hq : w1.heap.size = q at *
 clear m2 hN1 hQ2 hb2 hR2 hQ1 hb1 hR1 hq
 subst hs1
 rw [mBytes_one] at R ⊢
 obtain ⟨b1, b2, b3⟩ := id N
 go_wp2_with fail
 have N2 := N.set 0 (.int .i64 ((k.toNat : Int)))
 rw [nd_set0] at N2
 refine (other_ext r 0 k.toNat hk1b (w.heap.size + 1) (w.heap.size + 2) (by omega) _ (R.other (by simp) _) N2).mono ?_
 rw [HF.out]
 rintro e w3 ⟨rfl, R3, N3, m3⟩
 have hpl : x.1.path.length ≤ 9223372036854775807 := by
  rw [← HX.out]
  show (unpack (mText r 0 16).1).1.length ≤ _
  have h1 := mText_len r 0 16 (by omega)
  have h2 := unpack_len (mText r 0 16).1
  omega
 replace R3 : Rdr w3 (w.heap.size + 1) x.2.1 x.2.2 := by rw [← HX.out]; exact R3
 replace N3 : Blk w3 (w.heap.size + 2) (nd x.1.kind x.1.path x.1.val x.1.kid).toArray := by rw [← HX.out]; exact N3
 clear HX HF
 obtain ⟨⟨kd, pa, va, kk⟩, rest, code⟩ := x
 have hk0 : kd = (k.toNat : Int) := hx'
 subst hk0
 clear hx'
 have m23 : Mod [w.heap.size + 1, w.heap.size + 2] w2 w3 := ((Mod.refl _ _).setCell (.inl (by simp)) _).trans m3
 have Q3 := Q.mod m23 (by simp)
 have hb3 := Below.mod hb m23 (by omega) (by simp)
 clear m3 m23 N R Q hb N2 b1 b2 b3
 obtain ⟨b1, b2, b3⟩ := id N3
 go_wp2_with fail
 refine (rend_any rest code (w.heap.size + 1) _ R3).mono ?_
 rintro e w4 ⟨rfl, m4⟩
 have N4 := N3.mod m4 (by simp)
 have Q4 := Q3.mod m4 (by simp)
 have hb4 := Below.mod hb3 m4 (by have := N3.lt; omega) (by simp)
 clear b1 b2 b3 N3 Q3 hb3 m4 R3
 obtain ⟨b1, b2, b3⟩ := id N4
 by_cases hE : mEnd rest code = 0
 ·rw [hE]
  cases f
  ·have HZ : Hid (d = (ndZ, 80)) := Lib.hid (by rw [← HD.out, decEnd, if_neg (by simp)])
   go_wp2_with (refine wpList_nodeStore rfl rfl (.tmp 2) (.tmp 37) rfl rfl (kind := 0) (path := []) (val := []) (kid := noK) rfl Q4 ?_; intro wZ QZ mZ)
   have hld := run_loadVar_mid (P := Tryz.prog) wZ w.heap.size 0 76 _ _ (nd_range QZ) Tryz.underlying76 rfl (by rw [nd_len]; exact nd_info)
   refine bodyPost_ret (results_cell_tmp rfl _ _ _ _ rfl hld) rfl ?_
   exact ⟨by first | rfl | (rw [HZ.out]; rfl), Below.mod hb4 mZ (by have := (Q4).lt; omega) (by simp)⟩
  ·go_wp2_with (refine wpList_nodeG ?hw (.tmp 5) rfl rfl N4 ?_; (case hw => rfl))
   refine (check_any ((k.toNat : Int)) pa va kk hpl _).mono ?_
   rintro e w5 ⟨rfl, hbc⟩
   have N5 := N4.keep hbc
   have Q5 := Q4.keep hbc
   have hb5 := hb4.trans (hbc.mono hb4.size)
   clear b1 b2 b3
   cases hc : chk ((k.toNat : Int)) pa va kk
   ·have HZ : Hid (d = (ndZ, 80)) := Lib.hid (by rw [← HD.out, decEnd, if_neg (by simp [hc])])
    rw [show chkI false = 80 from rfl]
    go_wp2_with (refine wpList_nodeStore rfl rfl (.tmp 2) (.tmp 37) rfl rfl (kind := 0) (path := []) (val := []) (kid := noK) rfl Q5 ?_; intro wZ QZ mZ)
    have hld := run_loadVar_mid (P := Tryz.prog) wZ w.heap.size 0 76 _ _ (nd_range QZ) Tryz.underlying76 rfl (by rw [nd_len]; exact nd_info)
    refine bodyPost_ret (results_cell_tmp rfl _ _ _ _ rfl hld) rfl ?_
    exact ⟨by first | rfl | (rw [HZ.out]; rfl), Below.mod hb5 mZ (by have := (Q5).lt; omega) (by simp)⟩
   ·have HZ : Hid (d = (⟨(k.toNat : Int), pa, va, kk⟩, 0)) := Lib.hid (by rw [← HD.out, decEnd, if_pos ⟨hE, rfl, hc⟩])
    rw [show chkI true = 0 from rfl]
    go_wp2_with (first | (refine wpList_node rfl (.tmp 5) rfl rfl N5 ?_) | (refine wpList_nodeStore rfl rfl (.tmp 2) (.tmp 38) rfl rfl (kind := (k.toNat : Int)) (path := pa) (val := va) (kid := kk) rfl Q5 ?_; intro w6 Q6 m6))
    have hld := run_loadVar_mid (P := Tryz.prog) w6 w.heap.size 0 76 _ _ (nd_range Q6) Tryz.underlying76 rfl (by rw [nd_len]; exact nd_info)
    refine bodyPost_ret (results_cell_tmp rfl _ _ _ _ rfl hld) rfl ?_
    exact ⟨by rw [HZ.out]; rfl, Below.mod hb5 m6 (by have := Q5.lt; omega) (by simp)⟩
 ·have hE2 : (mEnd rest code == 0) = false := by simpa using hE
  have hE3 : (mEnd rest code != 0) = true := by simpa using hE
  have HZ : Hid (d = (ndZ, 80)) := Lib.hid (by rw [← HD.out, decEnd, if_neg (fun h => hE h.1)])
  clear hE
  generalize mEnd rest code = ec at *
  go_wp2_with (refine wpList_nodeStore rfl rfl (.tmp 2) (.tmp 37) rfl rfl (kind := 0) (path := []) (val := []) (kid := noK) rfl Q4 ?_; intro wZ QZ mZ)
  have hld := run_loadVar_mid (P := Tryz.prog) wZ w.heap.size 0 76 _ _ (nd_range QZ) Tryz.underlying76 rfl (by rw [nd_len]; exact nd_info)
  refine bodyPost_ret (results_cell_tmp rfl _ _ _ _ rfl hld) rfl ?_
  exact ⟨by first | rfl | (rw [HZ.out]; rfl), Below.mod hb4 mZ (by have := (Q4).lt; omega) (by simp)⟩
theorem dec_branch (a b : UInt8) (r : Bs) (hl : (3 :: a :: b :: r : Bs).length ≤ 9223372036854775807) (w : World) :
  Calls Tryz.prog 90 #[.string ⟨List.toArray (3 :: a :: b :: r)⟩] w fun e w' => e = .returned (.tuple #[.agg (nd ((dec (3 :: a :: b :: r)).1.kind) ((dec (3 :: a :: b :: r)).1.path) ((dec (3 :: a :: b :: r)).1.val) ((dec (3 :: a :: b :: r)).1.kid)).toArray, .int .i64 ((dec (3 :: a :: b :: r)).2)]) ∧ Below w.heap.size w w' := by
 rw [show dec (3 :: a :: b :: r) = decEnd (rdB (a.toNat * 256 + b.toNat) r) true from by simp [dec]]
 generalize hx : rdB (a.toNat * 256 + b.toNat) r = x
 have hx' : x.1.kind = 3 := by subst hx; rfl
 have hpl : x.1.path.length ≤ 9223372036854775807 := by subst hx; show ([] : Bs).length ≤ _; simp
 have HX := Lib.hid hx
 clear hx
 generalize hd : decEnd x true = d
 have HD := Lib.hid hd
 clear hd
 have hl : List.length (3 :: a :: b :: r : Bs) ≤ 9223372036854775807 := by first | assumption | (simp; done)
 have hQ0 := Blk.new w (nd 0 [] [] noK).toArray 76
 have hb0 : Below w.heap.size w (w.alloc (.cells (nd 0 [] [] noK).toArray 76)) := Below.allocS (Below.refl _ _) _
 rw [zero_node] at hb0 hQ0
 go_enter Tryz.func90, Tryz.ntmps90
 go_wp2_with fail
 refine (readNew (3 :: a :: b :: r) _).mono ?_
 rintro e w1 ⟨rfl, hw1⟩
 have hR1 : Rdr w1 (w.heap.size + 1) (3 :: a :: b :: r) 0 := by
  subst hw1
  have := Rdr.new (w := w.alloc (.cells (nd 0 [] [] noK).toArray 76)) (t := 178) hl
  rw [zero_node] at this
  simpa using this
 have hQ1 : Blk w1 w.heap.size #[.int .i64 0, .string ⟨List.toArray []⟩, .string ⟨List.toArray []⟩, .string ⟨List.toArray []⟩, .string ⟨List.toArray []⟩, .string ⟨List.toArray []⟩, .string ⟨List.toArray []⟩, .string ⟨List.toArray []⟩, .string ⟨List.toArray []⟩, .string ⟨List.toArray []⟩, .string ⟨List.toArray []⟩, .string ⟨List.toArray []⟩, .string ⟨List.toArray []⟩, .string ⟨List.toArray []⟩, .string ⟨List.toArray []⟩, .string ⟨List.toArray []⟩, .string ⟨List.toArray []⟩, .string ⟨List.toArray []⟩, .string ⟨List.toArray []⟩] := by subst hw1; exact hQ0.alloc _
 rw [← zero_node] at hQ1
 have hb1 : Below w.heap.size w w1 := by subst hw1; exact Below.allocS hb0 _
 have hs1 : w1.heap.size = w.heap.size + 2 := by subst hw1; simp
 clear hw1 hb0 hQ0 hl
 go_wp2_with fail
 have hN1 := Blk.new w1 (nd 0 [] [] noK).toArray 76
 rw [zero_node] at hN1
 have hR2 := hR1.alloc (.cells #[.int .i64 0, .string ⟨List.toArray []⟩, .string ⟨List.toArray []⟩, .string ⟨List.toArray []⟩, .string ⟨List.toArray []⟩, .string ⟨List.toArray []⟩, .string ⟨List.toArray []⟩, .string ⟨List.toArray []⟩, .string ⟨List.toArray []⟩, .string ⟨List.toArray []⟩, .string ⟨List.toArray []⟩, .string ⟨List.toArray []⟩, .string ⟨List.toArray []⟩, .string ⟨List.toArray []⟩, .string ⟨List.toArray []⟩, .string ⟨List.toArray []⟩, .string ⟨List.toArray []⟩, .string ⟨List.toArray []⟩, .string ⟨List.toArray []⟩] 76)
 have hQ2 := hQ1.alloc (.cells #[.int .i64 0, .string ⟨List.toArray []⟩, .string ⟨List.toArray []⟩, .string ⟨List.toArray []⟩, .string ⟨List.toArray []⟩, .string ⟨List.toArray []⟩, .string ⟨List.toArray []⟩, .string ⟨List.toArray []⟩, .string ⟨List.toArray []⟩, .string ⟨List.toArray []⟩, .string ⟨List.toArray []⟩, .string ⟨List.toArray []⟩, .string ⟨List.toArray []⟩, .string ⟨List.toArray []⟩, .string ⟨List.toArray []⟩, .string ⟨List.toArray []⟩, .string ⟨List.toArray []⟩, .string ⟨List.toArray []⟩, .string ⟨List.toArray []⟩] 76)
 have hb2 := Below.allocS hb1 (.cells #[.int .i64 0, .string ⟨List.toArray []⟩, .string ⟨List.toArray []⟩, .string ⟨List.toArray []⟩, .string ⟨List.toArray []⟩, .string ⟨List.toArray []⟩, .string ⟨List.toArray []⟩, .string ⟨List.toArray []⟩, .string ⟨List.toArray []⟩, .string ⟨List.toArray []⟩, .string ⟨List.toArray []⟩, .string ⟨List.toArray []⟩, .string ⟨List.toArray []⟩, .string ⟨List.toArray []⟩, .string ⟨List.toArray []⟩, .string ⟨List.toArray []⟩, .string ⟨List.toArray []⟩, .string ⟨List.toArray []⟩, .string ⟨List.toArray []⟩] 76)
 rw [← zero_node] at hN1
 refine (bytes_any (3 :: a :: b :: r) 0 1 (w.heap.size + 1) _ (by omega) hR2).mono ?_
 rintro e w2 ⟨rfl, R, m2⟩
 have N := hN1.mod m2 (by simp; omega)
 have Q := hQ2.mod m2 (by simp)
 have hb := Below.mod hb2 m2 (by simp; omega) (by simp)
 have hs2 : w.heap.size + 2 < w2.heap.size := by have := N.lt; omega
 generalize hq : w1.heap.size = q at *
 clear m2 hN1 hQ2 hb2 hR2 hQ1 hb1 hR1 hq
 subst hs1
 rw [mBytes_one] at R ⊢
 obtain ⟨b1, b2, b3⟩ := id N
 go_wp2_with fail
 have N2 := N.set 0 (.int .i64 3)
 rw [nd_set0] at N2
 refine (branch_long a b r 3 [] [] (w.heap.size + 1) (w.heap.size + 2) (by omega) _ (R.other (by simp) _) N2).mono ?_
 rintro e w3 ⟨rfl, R3, N3, m3⟩
 replace R3 : Rdr w3 (w.heap.size + 1) x.2.1 x.2.2 := by rw [← HX.out]; exact R3
 replace N3 : Blk w3 (w.heap.size + 2) (nd x.1.kind x.1.path x.1.val x.1.kid).toArray := by rw [← HX.out]; exact N3
 clear HX
 obtain ⟨⟨kd, pa, va, kk⟩, rest, code⟩ := x
 have hk0 : kd = 3 := hx'
 subst hk0
 clear hx'
 have m23 : Mod [w.heap.size + 1, w.heap.size + 2] w2 w3 := ((Mod.refl _ _).setCell (.inl (by simp)) _).trans m3
 have Q3 := Q.mod m23 (by simp)
 have hb3 := Below.mod hb m23 (by omega) (by simp)
 clear m3 m23 N R Q hb N2 b1 b2 b3
 obtain ⟨b1, b2, b3⟩ := id N3
 go_wp2_with fail
 refine (rend_any rest code (w.heap.size + 1) _ R3).mono ?_
 rintro e w4 ⟨rfl, m4⟩
 have N4 := N3.mod m4 (by simp)
 have Q4 := Q3.mod m4 (by simp)
 have hb4 := Below.mod hb3 m4 (by have := N3.lt; omega) (by simp)
 clear b1 b2 b3 N3 Q3 hb3 m4 R3
 obtain ⟨b1, b2, b3⟩ := id N4
 by_cases hE : mEnd rest code = 0
 ·rw [hE]
  ·go_wp2_with (refine wpList_nodeG ?hw (.tmp 5) rfl rfl N4 ?_; (case hw => rfl))
   refine (check_any (3) pa va kk hpl _).mono ?_
   rintro e w5 ⟨rfl, hbc⟩
   have N5 := N4.keep hbc
   have Q5 := Q4.keep hbc
   have hb5 := hb4.trans (hbc.mono hb4.size)
   clear b1 b2 b3
   cases hc : chk (3) pa va kk
   ·have HZ : Hid (d = (ndZ, 80)) := Lib.hid (by rw [← HD.out, decEnd, if_neg (by simp [hc])])
    rw [show chkI false = 80 from rfl]
    go_wp2_with (refine wpList_nodeStore rfl rfl (.tmp 2) (.tmp 37) rfl rfl (kind := 0) (path := []) (val := []) (kid := noK) rfl Q5 ?_; intro wZ QZ mZ)
    have hld := run_loadVar_mid (P := Tryz.prog) wZ w.heap.size 0 76 _ _ (nd_range QZ) Tryz.underlying76 rfl (by rw [nd_len]; exact nd_info)
    refine bodyPost_ret (results_cell_tmp rfl _ _ _ _ rfl hld) rfl ?_
    exact ⟨by first | rfl | (rw [HZ.out]; rfl), Below.mod hb5 mZ (by have := (Q5).lt; omega) (by simp)⟩
   ·have HZ : Hid (d = (⟨3, pa, va, kk⟩, 0)) := Lib.hid (by rw [← HD.out, decEnd, if_pos ⟨hE, rfl, hc⟩])
    rw [show chkI true = 0 from rfl]
    go_wp2_with (first | (refine wpList_node rfl (.tmp 5) rfl rfl N5 ?_) | (refine wpList_nodeStore rfl rfl (.tmp 2) (.tmp 38) rfl rfl (kind := 3) (path := pa) (val := va) (kid := kk) rfl Q5 ?_; intro w6 Q6 m6))
    have hld := run_loadVar_mid (P := Tryz.prog) w6 w.heap.size 0 76 _ _ (nd_range Q6) Tryz.underlying76 rfl (by rw [nd_len]; exact nd_info)
    refine bodyPost_ret (results_cell_tmp rfl _ _ _ _ rfl hld) rfl ?_
    exact ⟨by rw [HZ.out]; rfl, Below.mod hb5 m6 (by have := Q5.lt; omega) (by simp)⟩
 ·have hE2 : (mEnd rest code == 0) = false := by simpa using hE
  have hE3 : (mEnd rest code != 0) = true := by simpa using hE
  have HZ : Hid (d = (ndZ, 80)) := Lib.hid (by rw [← HD.out, decEnd, if_neg (fun h => hE h.1)])
  clear hE
  generalize mEnd rest code = ec at *
  go_wp2_with (refine wpList_nodeStore rfl rfl (.tmp 2) (.tmp 37) rfl rfl (kind := 0) (path := []) (val := []) (kid := noK) rfl Q4 ?_; intro wZ QZ mZ)
  have hld := run_loadVar_mid (P := Tryz.prog) wZ w.heap.size 0 76 _ _ (nd_range QZ) Tryz.underlying76 rfl (by rw [nd_len]; exact nd_info)
  refine bodyPost_ret (results_cell_tmp rfl _ _ _ _ rfl hld) rfl ?_
  exact ⟨by first | rfl | (rw [HZ.out]; rfl), Below.mod hb4 mZ (by have := (Q4).lt; omega) (by simp)⟩
theorem dec_short (r : Bs) (hr : r.length < 2) (w : World) :
  Calls Tryz.prog 90 #[.string ⟨List.toArray (3 :: r)⟩] w fun e w' => e = .returned (.tuple #[.agg (nd 0 ([]) ([]) noK).toArray, .int .i64 80]) ∧ Below w.heap.size w w' := by
 have hl : (3 :: r : Bs).length ≤ 9223372036854775807 := by simp; omega
 have hl : List.length (3 :: r : Bs) ≤ 9223372036854775807 := by first | assumption | (simp; done)
 have hQ0 := Blk.new w (nd 0 [] [] noK).toArray 76
 have hb0 : Below w.heap.size w (w.alloc (.cells (nd 0 [] [] noK).toArray 76)) := Below.allocS (Below.refl _ _) _
 rw [zero_node] at hb0 hQ0
 go_enter Tryz.func90, Tryz.ntmps90
 go_wp2_with fail
 refine (readNew (3 :: r) _).mono ?_
 rintro e w1 ⟨rfl, hw1⟩
 have hR1 : Rdr w1 (w.heap.size + 1) (3 :: r) 0 := by
  subst hw1
  have := Rdr.new (w := w.alloc (.cells (nd 0 [] [] noK).toArray 76)) (t := 178) hl
  rw [zero_node] at this
  simpa using this
 have hQ1 : Blk w1 w.heap.size #[.int .i64 0, .string ⟨List.toArray []⟩, .string ⟨List.toArray []⟩, .string ⟨List.toArray []⟩, .string ⟨List.toArray []⟩, .string ⟨List.toArray []⟩, .string ⟨List.toArray []⟩, .string ⟨List.toArray []⟩, .string ⟨List.toArray []⟩, .string ⟨List.toArray []⟩, .string ⟨List.toArray []⟩, .string ⟨List.toArray []⟩, .string ⟨List.toArray []⟩, .string ⟨List.toArray []⟩, .string ⟨List.toArray []⟩, .string ⟨List.toArray []⟩, .string ⟨List.toArray []⟩, .string ⟨List.toArray []⟩, .string ⟨List.toArray []⟩] := by subst hw1; exact hQ0.alloc _
 rw [← zero_node] at hQ1
 have hb1 : Below w.heap.size w w1 := by subst hw1; exact Below.allocS hb0 _
 have hs1 : w1.heap.size = w.heap.size + 2 := by subst hw1; simp
 clear hw1 hb0 hQ0 hl
 go_wp2_with fail
 have hN1 := Blk.new w1 (nd 0 [] [] noK).toArray 76
 rw [zero_node] at hN1
 have hR2 := hR1.alloc (.cells #[.int .i64 0, .string ⟨List.toArray []⟩, .string ⟨List.toArray []⟩, .string ⟨List.toArray []⟩, .string ⟨List.toArray []⟩, .string ⟨List.toArray []⟩, .string ⟨List.toArray []⟩, .string ⟨List.toArray []⟩, .string ⟨List.toArray []⟩, .string ⟨List.toArray []⟩, .string ⟨List.toArray []⟩, .string ⟨List.toArray []⟩, .string ⟨List.toArray []⟩, .string ⟨List.toArray []⟩, .string ⟨List.toArray []⟩, .string ⟨List.toArray []⟩, .string ⟨List.toArray []⟩, .string ⟨List.toArray []⟩, .string ⟨List.toArray []⟩] 76)
 have hQ2 := hQ1.alloc (.cells #[.int .i64 0, .string ⟨List.toArray []⟩, .string ⟨List.toArray []⟩, .string ⟨List.toArray []⟩, .string ⟨List.toArray []⟩, .string ⟨List.toArray []⟩, .string ⟨List.toArray []⟩, .string ⟨List.toArray []⟩, .string ⟨List.toArray []⟩, .string ⟨List.toArray []⟩, .string ⟨List.toArray []⟩, .string ⟨List.toArray []⟩, .string ⟨List.toArray []⟩, .string ⟨List.toArray []⟩, .string ⟨List.toArray []⟩, .string ⟨List.toArray []⟩, .string ⟨List.toArray []⟩, .string ⟨List.toArray []⟩, .string ⟨List.toArray []⟩] 76)
 have hb2 := Below.allocS hb1 (.cells #[.int .i64 0, .string ⟨List.toArray []⟩, .string ⟨List.toArray []⟩, .string ⟨List.toArray []⟩, .string ⟨List.toArray []⟩, .string ⟨List.toArray []⟩, .string ⟨List.toArray []⟩, .string ⟨List.toArray []⟩, .string ⟨List.toArray []⟩, .string ⟨List.toArray []⟩, .string ⟨List.toArray []⟩, .string ⟨List.toArray []⟩, .string ⟨List.toArray []⟩, .string ⟨List.toArray []⟩, .string ⟨List.toArray []⟩, .string ⟨List.toArray []⟩, .string ⟨List.toArray []⟩, .string ⟨List.toArray []⟩, .string ⟨List.toArray []⟩] 76)
 rw [← zero_node] at hN1
 refine (bytes_any (3 :: r) 0 1 (w.heap.size + 1) _ (by omega) hR2).mono ?_
 rintro e w2 ⟨rfl, R, m2⟩
 have N := hN1.mod m2 (by simp; omega)
 have Q := hQ2.mod m2 (by simp)
 have hb := Below.mod hb2 m2 (by simp; omega) (by simp)
 have hs2 : w.heap.size + 2 < w2.heap.size := by have := N.lt; omega
 generalize hq : w1.heap.size = q at *
 clear m2 hN1 hQ2 hb2 hR2 hQ1 hb1 hR1 hq
 subst hs1
 rw [mBytes_one] at R ⊢
 obtain ⟨b1, b2, b3⟩ := id N
 go_wp2_with fail
 have N2 := N.set 0 (.int .i64 3)
 rw [nd_set0] at N2
 refine (branch_short r 3 [] [] noK (w.heap.size + 1) (w.heap.size + 2) (by omega) _ hr (R.other (by simp) _) N2).mono ?_
 rintro e w3 ⟨rfl, R3, N3, m3⟩
 have m23 : Mod [w.heap.size + 1, w.heap.size + 2] w2 w3 := ((Mod.refl _ _).setCell (.inl (by simp)) _).trans m3
 have Q3 := Q.mod m23 (by simp)
 have hb3 := Below.mod hb m23 (by omega) (by simp)
 clear m3 m23 N R Q hb N2 b1 b2 b3
 obtain ⟨b1, b2, b3⟩ := id N3
 go_wp2_with fail
 refine (rend_any r 20 (w.heap.size + 1) _ R3).mono ?_
 rintro e w4 ⟨rfl, m4⟩
 have Q4 := Q3.mod m4 (by simp)
 have hb4 := Below.mod hb3 m4 (by have := N3.lt; omega) (by simp)
 rw [show mEnd r 20 = 20 from by simp [mEnd]]
 go_wp2_with (refine wpList_nodeStore rfl rfl (.tmp 2) (.tmp 37) rfl rfl (kind := 0) (path := []) (val := []) (kid := noK) rfl Q4 ?_; intro wZ QZ mZ)
 have hld := run_loadVar_mid (P := Tryz.prog) wZ w.heap.size 0 76 _ _ (nd_range QZ) Tryz.underlying76 rfl (by rw [nd_len]; exact nd_info)
 refine bodyPost_ret (results_cell_tmp rfl _ _ _ _ rfl hld) rfl ?_
 exact ⟨by first | rfl | (rw [HZ.out]; rfl), Below.mod hb4 mZ (by have := (Q4).lt; omega) (by simp)⟩
theorem decode_any (s : Bs) (hl : s.length ≤ 9223372036854775807) (w : World) :
  Calls Tryz.prog 90 #[.string ⟨List.toArray s⟩] w fun e w' => e = .returned (.tuple #[.agg (nd ((dec s).1.kind) ((dec s).1.path) ((dec s).1.val) ((dec s).1.kid)).toArray, .int .i64 ((dec s).2)]) ∧ Below w.heap.size w w' := by
 match s, hl with
 | [], _ => exact dec_nil w
 | k :: r, hl =>
  by_cases h1 : k = 1
  ·subst h1; exact dec_leaf r hl w
  ·by_cases h3 : k = 3
   ·subst h3
    match r, hl with
    | [], _ => exact dec_short [] (by simp) w
    | [x], _ => exact dec_short [x] (by simp) w
    | a :: b :: r, hl => exact dec_branch a b r hl w
   ·exact dec_ext k h1 h3 r hl w
end Go.Proofs.YtjppbomngnomhaaGreatDoor
namespace Go.Proofs.YtjppbomngnomhaaGreatDoor
open Go.RowKit Go.WideMaps Go.Maps Go.Sort Pl
def ShortE (T : List Ent) : Prop := ∀ e ∈ T, e.2.length ≤ 1000
theorem get_short {T : List Ent} (h : ShortE T) (k : Bs) : ((getT T k).getD []).length ≤ 1000 := by
 unfold getT
 cases hf : T.find? (fun e => e.1 == k) with
 | none => simp
 | some e => exact h e (List.mem_of_find?_eq_some hf)
def nodeT (T : List Ent) (k : Bs) : Nd × Int := if k ∈ keysE T then dec ((getT T k).getD []) else (ndZ, 90)
theorem nodeT_in {T : List Ent} {k : Bs} (h : k ∈ keysE T) : nodeT T k = dec ((getT T k).getD []) := if_pos h
theorem nodeT_out {T : List Ent} {k : Bs} (h : k ∉ keysE T) : nodeT T k = (ndZ, 90) := if_neg h
theorem snode_any (base p b : Nat) (T : List Ent) (hsh : ShortE T) (k : Bs) (hk : k.length ≤ maxLen) (w : World) (h : Sto w base p b T) :
  Calls Tryz.prog 61 #[.pointer (some ⟨p, 0, none⟩), .string ⟨List.toArray k⟩] w fun e w' => e = .returned (.tuple #[.agg (nd ((nodeT T k).1.kind) ((nodeT T k).1.path) ((nodeT T k).1.val) ((nodeT T k).1.kid)).toArray, .int .i64 ((nodeT T k).2)]) ∧ Below w.heap.size w w' := by
 have hQ0 := Blk.new w (nd 0 [] [] noK).toArray 76
 have hb0 : Below w.heap.size w (w.alloc (.cells (nd 0 [] [] noK).toArray 76)) := Below.allocS (Below.refl _ _) _
 have hg := sget_any base p b T k hk _ (h.keep hb0)
 have hsl := get_short hsh k
 have HI : Hid (k ∈ keysE T → nodeT T k = dec ((getT T k).getD [])) := Lib.hid nodeT_in
 have HO : Hid (k ∉ keysE T → nodeT T k = (ndZ, 90)) := Lib.hid nodeT_out
 generalize (getT T k).getD [] = s at *
 generalize hr : nodeT T k = r at *
 clear hr h
 rw [zero_node] at hb0 hQ0 hg
 go_enter Tryz.func61, Tryz.ntmps61
 go_wp2_with fail
 refine hg.mono ?_
 rintro e w1 ⟨rfl, hb⟩
 have hb1 := hb0.trans (hb.mono hb0.size)
 have hQ1 := hQ0.keep hb
 rw [← zero_node] at hQ1
 clear hg hb hb0 hQ0
 by_cases hin : k ∈ keysE T
 ·have hd : decide (k ∈ keysE T) = true := by simpa using hin
  rw [hd]
  have hr := HI.out hin
  have HR := Lib.hid hr
  clear hr
  have hde := decode_any s (by omega)
  rw [← HR.out] at hde
  obtain ⟨⟨kd, pa, va, kk⟩, code⟩ := r
  simp only at hde
  go_wp2_with fail
  refine (hde _).mono ?_
  rintro e w2 ⟨rfl, hb⟩
  have hb2 := hb1.trans (hb.mono hb1.size)
  have hQ2 := hQ1.keep hb
  go_wp2_with (refine wpList_nodeStore rfl rfl (.tmp 4) (.tmp 19) rfl rfl (kind := kd) (path := pa) (val := va) (kid := kk) rfl hQ2 ?_; intro w3 Q3 m3)
  have hld := run_loadVar_mid (P := Tryz.prog) w3 w.heap.size 0 76 _ _ (nd_range Q3) Tryz.underlying76 rfl (by rw [nd_len]; exact nd_info)
  refine bodyPost_ret (results_cell_tmp rfl _ _ _ _ rfl hld) rfl ?_
  exact ⟨rfl, Below.mod hb2 m3 hb2.size (by simp)⟩
 ·have hd : decide (k ∈ keysE T) = false := by simpa using hin
  rw [hd]
  have hr := HO.out hin
  subst hr
  go_wp2_with (refine wpList_nodeStore rfl rfl (.tmp 4) (.tmp 16) rfl rfl (kind := 0) (path := []) (val := []) (kid := noK) rfl hQ1 ?_; intro w3 Q3 m3)
  have hld := run_loadVar_mid (P := Tryz.prog) w3 w.heap.size 0 76 _ _ (nd_range Q3) Tryz.underlying76 rfl (by rw [nd_len]; exact nd_info)
  refine bodyPost_ret (results_cell_tmp rfl _ _ _ _ rfl hld) rfl ?_
  exact ⟨rfl, Below.mod hb1 m3 hb1.size (by simp)⟩
end Go.Proofs.YtjppbomngnomhaaGreatDoor
namespace Go.Proofs.YtjppbomngnomhaaGreatDoor
namespace Pl
theorem digs_be : ∀ (f : Nat) (l : Bs), l.length ≤ f → (l.headD 1 ≠ 0) → digs f (be l) = l
 | 0, l, h, _ => by
  have : l = [] := List.length_eq_zero_iff.1 (by omega)
  subst this; rfl
 | f + 1, l, h, h0 => by
  rcases List.eq_nil_or_concat l with rfl | ⟨r, c, rfl⟩
  ·simp [be, digs]
  ·rw [List.concat_eq_append] at *
   have hp : 0 < be (r ++ [c]) := by
    cases r with
    | nil =>
     simp at h0
     have : c.toNat ≠ 0 := fun e => h0 (by rw [← UInt8.toNat_inj]; exact e)
     simp [be]; omega
    | cons a q =>
     simp at h0
     have h1 : a.toNat ≠ 0 := fun e => h0 (by rw [← UInt8.toNat_inj]; exact e)
     rw [List.cons_append, be_cons]
     have : 1 * 256 ^ (q ++ [c]).length ≤ a.toNat * 256 ^ (q ++ [c]).length := Nat.mul_le_mul_right _ (by omega)
     have := Nat.pow_pos (n := (q ++ [c]).length) (show 0 < 256 by omega)
     omega
   rw [digs_step f _ hp, be_snoc]
   have hc := c.toNat_lt
   rw [show (be r * 256 + c.toNat) / 256 = be r from by omega, show (be r * 256 + c.toNat) % 256 = c.toNat from by omega]
   rw [digs_be f r (by simp at h; omega) (by
    cases r with
    | nil => simp
    | cons a q => simpa using h0)]
   simp
theorem take_eats (s : Bs) (h : (take s).2.2 = 0) : s = num (take s).1 ++ (take s).2.1 := by
 cases s with
 | nil => exact absurd h (by decide)
 | cons k r =>
  unfold take at h ⊢
  simp only at h ⊢
  split at h
  ·exact absurd h (by decide)
  ·rename_i h8
   split at h
   ·exact absurd h (by decide)
   ·rename_i hr
    split at h
    ·exact absurd h (by decide)
    ·rename_i hz
     rw [if_neg h8, if_neg hr, if_neg hz]
     have hl : (r.take k.toNat).length = k.toNat := by simp; omega
     have hd : digs 8 (be (r.take k.toNat)) = r.take k.toNat := digs_be 8 _ (by omega) (by
      cases hk : k.toNat with
      | zero => simp
      | succ n =>
       cases r with
       | nil => simp at hr; omega
       | cons a q =>
        simp
        intro e
        exact hz (.inl ⟨by omega, by simp [e]⟩))
     simp only [num, hd, hl]
     rw [List.cons_append, List.take_append_drop]
     simp
theorem tx_eats (s : Bs) (most : Int) (h : (tx s most).2.2 = 0) : s = text (tx s most).1 ++ (tx s most).2.1 ∧ ((tx s most).1.length : Int) ≤ most := by
 unfold tx at h ⊢
 split at h
 ·rename_i h1; exact absurd h h1
 ·rename_i h1
  split at h
  ·exact absurd h (by decide)
  ·rename_i h2
   split at h
   ·exact absurd h (by decide)
   ·rename_i h3
    rw [if_neg h1, if_neg h2, if_neg h3]
    have ht := take_eats s (by simpa using h1)
    have hl : ((take s).2.1.take (take s).1).length = (take s).1 := by simp; omega
    refine ⟨?_, by simp only [hl]; omega⟩
    simp only [text, hl]
    rw [List.append_assoc, List.take_append_drop]
    exact ht
theorem mText_eats (s : Bs) (c most : Int) (h : (mText s c most).2.2 = 0) : c = 0 ∧ s = text (mText s c most).1 ++ (mText s c most).2.1 ∧ ((mText s c most).1.length : Int) ≤ most := by
 unfold mText at h ⊢
 split at h
 ·rename_i h1; exact absurd h h1
 ·rename_i h1
  split at h
  ·rename_i h2; exact absurd h h2
  ·rename_i h2
   rw [if_neg h1, if_neg h2]
   have := tx_eats s most (by simpa using h2)
   exact ⟨by simpa using h1, this⟩
theorem mBytes_eats (s : Bs) (c : Int) (n : Nat) (h : (mBytes s c n).2.2 = 0) : c = 0 ∧ s = (mBytes s c n).1 ++ (mBytes s c n).2.1 ∧ (mBytes s c n).1.length = n := by
 unfold mBytes at h ⊢
 split at h
 ·rename_i h1; exact absurd h h1
 ·rename_i h1
  split at h
  ·exact absurd h (by simp)
  ·rename_i h2
   split at h
   ·exact absurd h (by simp)
   ·rename_i h3
    rw [if_neg h1, if_neg h2, if_neg h3]
    refine ⟨by simpa using h1, by simp, by simp; omega⟩
end Pl
end Go.Proofs.YtjppbomngnomhaaGreatDoor
namespace Go.Proofs.YtjppbomngnomhaaGreatDoor
namespace Pl
theorem ofP_consE (c : UInt8) (r : Bs) : ofP (c :: r) = UInt8.ofNat (c.toNat / 16) :: UInt8.ofNat (c.toNat % 16) :: ofP r := by simp [ofP]
theorem fit_ofP (r : Bs) : fit (ofP r) = true := by
 induction r with
 | nil => rfl
 | cons c r ih =>
  have hc := c.toNat_lt
  rw [ofP_consE]
  unfold fit at ih ⊢
  simp only [List.all_cons, ih, Bool.and_true, Bool.and_eq_true, decide_eq_true_eq]
  constructor
  ·simp; omega
  ·simp; omega
theorem joined_ofP (r : Bs) : joined (ofP r) = r := by
 induction r with
 | nil => rfl
 | cons c r ih =>
  have hc := c.toNat_lt
  rw [ofP_consE, joined, ih]
  congr 1
  rw [← UInt8.toNat_inj]
  simp
  omega
theorem pack_unpack (s : Bs) (h : (unpack s).2.2 = 0) : (pack (unpack s).1 (unpack s).2.1).1 = s ∧ fit (unpack s).1 = true := by
 cases s with
 | nil => exact absurd h (by decide)
 | cons c r =>
  have hc := c.toNat_lt
  by_cases h1 : 3 < c.toNat / 16 ∨ (c.toNat / 16 % 2 = 0 ∧ c.toNat % 16 ≠ 0)
  ·rw [unpack, if_pos h1] at h
   exact absurd h (by simp)
  ·rw [show unpack (c :: r) = ((if c.toNat / 16 % 2 = 1 then UInt8.ofNat (c.toNat % 16) :: ofP r else ofP r), decide (2 ≤ c.toNat / 16), 0) from by rw [unpack, if_neg h1]]
   simp only [not_or, not_and, Nat.not_lt] at h1
   obtain ⟨h3, h4⟩ := h1
   by_cases ho : c.toNat / 16 % 2 = 1
   ·simp only [if_pos ho]
    have hf : fit (UInt8.ofNat (c.toNat % 16) :: ofP r) = true := by
     have := fit_ofP r
     unfold fit at this ⊢
     simp only [List.all_cons, this, Bool.and_true, decide_eq_true_eq]
     simp; omega
    refine ⟨?_, hf⟩
    unfold pack
    have hl := ofP_len r
    rw [if_neg (by simp [hf]), if_pos (by simp [hl])]
    simp only [List.headD_cons, List.tail_cons, joined_ofP]
    congr 1
    rw [← UInt8.toNat_inj]
    by_cases h2 : 2 ≤ c.toNat / 16
    ·simp [h2]; omega
    ·simp [h2]; omega
   ·simp only [if_neg ho]
    have hl := ofP_len r
    refine ⟨?_, fit_ofP r⟩
    unfold pack
    rw [if_neg (by simp [fit_ofP]), if_neg (by simp [hl])]
    simp only [joined_ofP]
    congr 1
    have h5 : c.toNat % 16 = 0 := by
     by_cases h6 : c.toNat % 16 = 0
     ·exact h6
     ·exact absurd (h4 (by omega)) (by simpa using h6)
    rw [← UInt8.toNat_inj]
    by_cases h2 : 2 ≤ c.toNat / 16
    ·simp [h2]; omega
    ·simp [h2]; omega
theorem rdKids_same (set : Nat) (s : Bs) (c : Int) : ∀ k i, k ≤ i → (rdKids set s c k).1 i = []
 | 0, _, _ => rfl
 | k + 1, i, h => by
  rw [rdKids]
  split
  ·simp only [upd]
   rw [if_neg (by omega)]
   exact rdKids_same set s c k i (by omega)
  ·exact rdKids_same set s c k i (by omega)
theorem rdKids_eats (set : Nat) (s : Bs) (c : Int) : ∀ k, k ≤ 16 → (rdKids set s c k).2.2 = 0 →
  c = 0 ∧ s = (kidsTo (rdKids set s c k).1 k).flatten ++ (rdKids set s c k).2.1 ∧ ∀ i, i < k → bitv (rdKids set s c k).1 i = set / 2 ^ (15 - i) % 2
 | 0, _, h => ⟨h, by simp [kidsTo, rdKids], fun i hi => by omega⟩
 | k + 1, hk, h => by
  rw [rdKids] at h ⊢
  by_cases hb : set / 2 ^ (15 - k) % 2 = 1
  ·rw [if_pos hb] at h ⊢
   have he := mBytes_eats (rdKids set s c k).2.1 (rdKids set s c k).2.2 32 h
   obtain ⟨e1, e2, e3⟩ := he
   obtain ⟨a1, a2, a3⟩ := rdKids_eats set s c k (by omega) e1
   have hsame : kidsTo (upd (rdKids set s c k).1 k (mBytes (rdKids set s c k).2.1 (rdKids set s c k).2.2 32).1) k = kidsTo (rdKids set s c k).1 k := by
    unfold kidsTo
    congr 1
    apply List.map_congr_left
    intro i hi
    have : i < k := by simpa using hi
    simp only [upd]
    rw [if_neg (by omega)]
   refine ⟨a1, ?_, fun i hi => ?_⟩
   ·rw [flat_succ, hsame]
    simp only [upd, if_true]
    rw [List.append_assoc]
    have e2' : (rdKids set s c k).2.1 = (mBytes (rdKids set s c k).2.1 (rdKids set s c k).2.2 32).1 ++ (mBytes (rdKids set s c k).2.1 (rdKids set s c k).2.2 32).2.1 := e2
    rw [← e2']
    exact a2
   ·by_cases hik : i = k
    ·subst hik
     have e3' : (mBytes (rdKids set s c i).2.1 (rdKids set s c i).2.2 32).1.length = 32 := e3
     rw [hb]
     simp only [bitv, upd, if_true]
     rw [if_neg (fun e => by rw [e] at e3'; simp at e3')]
    ·rw [← a3 i (by omega)]
     simp [bitv, upd, hik]
  ·rw [if_neg hb] at h ⊢
   obtain ⟨a1, a2, a3⟩ := rdKids_eats set s c k (by omega) h
   have h0 := rdKids_same set s c k k (Nat.le_refl _)
   refine ⟨a1, ?_, fun i hi => ?_⟩
   ·rw [flat_succ, h0, List.append_nil]
    exact a2
   ·by_cases hik : i = k
    ·subst hik
     rw [bitv, if_pos h0]; omega
    ·exact a3 i (by omega)
theorem numTo_bits (kid : Nat → Bs) (set : Nat) (hs : set < 65536) (h : ∀ i, i < 16 → bitv kid i = set / 2 ^ (15 - i) % 2) : ∀ n, n ≤ 16 → numTo kid n = set / 2 ^ (16 - n)
 | 0, _ => by rw [numTo]; exact (Nat.div_eq_of_lt (by simpa using hs)).symm
 | n + 1, hn => by
  rw [numTo, numTo_bits kid set hs h n (by omega), h n (by omega), show 16 - n = (15 - n) + 1 from by omega, show 16 - (n + 1) = 15 - n from by omega, Nat.pow_succ, ← Nat.div_div_eq_div_mul]
  omega
theorem rdB_eats (a b : UInt8) (r : Bs) (h : (rdB (a.toNat * 256 + b.toNat) r).2.2 = 0) :
  3 :: a :: b :: r = enc 3 [] (rdB (a.toNat * 256 + b.toNat) r).1.val (rdB (a.toNat * 256 + b.toNat) r).1.kid ++ (rdB (a.toNat * 256 + b.toNat) r).2.1 := by
 have ha := a.toNat_lt
 have hb := b.toNat_lt
 generalize hset : a.toNat * 256 + b.toNat = set at *
 obtain ⟨e1, e2, _⟩ := mText_eats (rdKids set r 0 16).2.1 (rdKids set r 0 16).2.2 32 h
 obtain ⟨_, a2, a3⟩ := rdKids_eats set r 0 16 (by omega) e1
 have hn := numTo_bits (rdKids set r 0 16).1 set (by omega) a3 16 (by omega)
 have h8 := numTo_bits (rdKids set r 0 16).1 set (by omega) a3 8 (by omega)
 simp at hn h8
 have hh : UInt8.ofNat (hiK (rdKids set r 0 16).1) = a := by
  rw [← UInt8.toNat_inj]; unfold hiK; rw [h8]; simp; omega
 have hl : UInt8.ofNat (loK (rdKids set r 0 16).1) = b := by
  rw [← UInt8.toNat_inj]; unfold loK; rw [hn]; simp; omega
 show _ = enc 3 [] (mText (rdKids set r 0 16).2.1 (rdKids set r 0 16).2.2 32).1 (rdKids set r 0 16).1 ++ (mText (rdKids set r 0 16).2.1 (rdKids set r 0 16).2.2 32).2.1
 have he : enc 3 [] (mText (rdKids set r 0 16).2.1 (rdKids set r 0 16).2.2 32).1 (rdKids set r 0 16).1 = 3 :: a :: b :: ((kidsTo (rdKids set r 0 16).1 16).flatten ++ text (mText (rdKids set r 0 16).2.1 (rdKids set r 0 16).2.2 32).1) := by
  simp [enc, hh, hl, kidsF]
 rw [he]
 simp only [List.cons_append, List.append_assoc]
 rw [← e2, ← a2]
theorem rdL_eats (r : Bs) (h : (rdL r 0).2.2 = 0) (hu : (unpack (mText r 0 16).1).2.2 = 0) (hl : (unpack (mText r 0 16).1).2.1 = true) :
  1 :: r = enc 1 (rdL r 0).1.path (rdL r 0).1.val noK ++ (rdL r 0).2.1 := by
 obtain ⟨e1, e2, _⟩ := mText_eats (mText r 0 16).2.1 (mText r 0 16).2.2 32 h
 obtain ⟨_, f2, _⟩ := mText_eats r 0 16 e1
 obtain ⟨p1, _⟩ := pack_unpack _ hu
 rw [hl] at p1
 show _ = enc 1 (unpack (mText r 0 16).1).1 (mText (mText r 0 16).2.1 (mText r 0 16).2.2 32).1 noK ++ (mText (mText r 0 16).2.1 (mText r 0 16).2.2 32).2.1
 rw [show enc 1 (unpack (mText r 0 16).1).1 (mText (mText r 0 16).2.1 (mText r 0 16).2.2 32).1 noK = 1 :: (text (mText r 0 16).1 ++ text (mText (mText r 0 16).2.1 (mText r 0 16).2.2 32).1) from by simp [enc, p1]]
 simp only [List.cons_append, List.append_assoc]
 rw [← e2, ← f2]
theorem rdE_eats (r : Bs) (h : (rdE 2 r 0).2.2 = 0) (hu : (unpack (mText r 0 16).1).2.2 = 0) (hl : (unpack (mText r 0 16).1).2.1 = false) :
  2 :: r = enc 2 (rdE 2 r 0).1.path [] (rdE 2 r 0).1.kid ++ (rdE 2 r 0).2.1 := by
 obtain ⟨e1, e2, _⟩ := mBytes_eats (mText r 0 16).2.1 (mText r 0 16).2.2 32 h
 obtain ⟨_, f2, _⟩ := mText_eats r 0 16 e1
 obtain ⟨p1, _⟩ := pack_unpack _ hu
 rw [hl] at p1
 show _ = enc 2 (unpack (mText r 0 16).1).1 [] (upd noK 0 (mBytes (mText r 0 16).2.1 (mText r 0 16).2.2 32).1) ++ (mBytes (mText r 0 16).2.1 (mText r 0 16).2.2 32).2.1
 rw [show enc 2 (unpack (mText r 0 16).1).1 [] (upd noK 0 (mBytes (mText r 0 16).2.1 (mText r 0 16).2.2 32).1) = 2 :: (text (mText r 0 16).1 ++ (mBytes (mText r 0 16).2.1 (mText r 0 16).2.2 32).1) from by simp [enc, p1, upd]]
 simp only [List.cons_append, List.append_assoc]
 have e2' : (mText r 0 16).2.1 = (mBytes (mText r 0 16).2.1 (mText r 0 16).2.2 32).1 ++ (mBytes (mText r 0 16).2.1 (mText r 0 16).2.2 32).2.1 := e2
 rw [← e2', ← f2]
end Pl
end Go.Proofs.YtjppbomngnomhaaGreatDoor
