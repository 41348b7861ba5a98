/- ShaB, Told. -/
import Derived.Test.YthgjdaomcpinaaaGreatDoorMp15
set_option linter.unnecessarySimpa false
set_option linter.unusedSimpArgs false
set_option linter.unusedVariables false
set_option maxRecDepth 100000
set_option maxHeartbeats 32000000
namespace Go.Proofs.YthgjdaomcpinaaaGreatDoor
open Go.RowKit
def kList : List Int := [0x428a2f98, 0x71374491, 0xb5c0fbcf, 0xe9b5dba5, 0x3956c25b, 0x59f111f1, 0x923f82a4, 0xab1c5ed5,
 0xd807aa98, 0x12835b01, 0x243185be, 0x550c7dc3, 0x72be5d74, 0x80deb1fe, 0x9bdc06a7, 0xc19bf174,
 0xe49b69c1, 0xefbe4786, 0x0fc19dc6, 0x240ca1cc, 0x2de92c6f, 0x4a7484aa, 0x5cb0a9dc, 0x76f988da,
 0x983e5152, 0xa831c66d, 0xb00327c8, 0xbf597fc7, 0xc6e00bf3, 0xd5a79147, 0x06ca6351, 0x14292967,
 0x27b70a85, 0x2e1b2138, 0x4d2c6dfc, 0x53380d13, 0x650a7354, 0x766a0abb, 0x81c2c92e, 0x92722c85,
 0xa2bfe8a1, 0xa81a664b, 0xc24b8b70, 0xc76c51a3, 0xd192e819, 0xd6990624, 0xf40e3585, 0x106aa070,
 0x19a4c116, 0x1e376c08, 0x2748774c, 0x34b0bcb5, 0x391c0cb3, 0x4ed8aa4a, 0x5b9cca4f, 0x682e6ff3,
 0x748f82ee, 0x78a5636f, 0x84c87814, 0x8cc70208, 0x90befffa, 0xa4506ceb, 0xbef9a3f7, 0xc67178f2]
def kc (i : Nat) : Int := kList.getD i 0
theorem kc_bd (i : Nat) : W32 (kc i) := by
 by_cases h : i < 64
 ·have : ∀ i : Fin 64, 0 ≤ kc i.1 ∧ kc i.1 < 4294967296 := by decide +kernel
  exact this ⟨i, h⟩
 ·unfold kc
  rw [List.getD_eq_getElem?_getD, List.getElem?_eq_none (by simp [kList]; omega)]
  exact ⟨by decide, by decide⟩
structure KT (w : World) : Prop where
 cell : ∀ i, i < 64 → w.cell? ⟨1, i, none⟩ = some (.int .u32 (kc i))
 lt : 1 < w.heap.size
theorem KT.keep {W w : World} (h : KT W) (hb : Below W.heap.size W w) : KT w :=
 ⟨fun i hi => (hb.cell (p := ⟨1, i, none⟩) h.lt).trans (h.cell i hi), Nat.lt_of_lt_of_le h.lt hb.size⟩
theorem zero8w : (arr 8 fun _ => 0).toArray = #[Value.int .u32 0, Value.int .u32 0, Value.int .u32 0, Value.int .u32 0, Value.int .u32 0, Value.int .u32 0, Value.int .u32 0, Value.int .u32 0] := rfl
def chI (e f g : Int) : Int := bits .xor .u32 (bits .and .u32 e f) (bits .and .u32 (bits .xor .u32 IntKind.u32.max e) g)
def majI (a b c : Int) : Int := bits .xor .u32 (bits .xor .u32 (bits .and .u32 a b) (bits .and .u32 a c)) (bits .and .u32 b c)
def rnd (k w : Int) (v : Nat → Int) : Nat → Int
 | 0 => (v 7 + bS1 (v 4) + chI (v 4) (v 5) (v 6) + k + w + (bS0 (v 0) + majI (v 0) (v 1) (v 2))) % 4294967296
 | 1 => v 0
 | 2 => v 1
 | 3 => v 2
 | 4 => (v 3 + (v 7 + bS1 (v 4) + chI (v 4) (v 5) (v 6) + k + w)) % 4294967296
 | 5 => v 4
 | 6 => v 5
 | 7 => v 6
 | _ => 0
def rds (h b : Nat → Int) : Nat → Nat → Int
 | 0 => h
 | n + 1 => rnd (kc n) (sch b n) (rds h b n)
theorem mod_bd (x : Int) : W32 (x % 4294967296) := ⟨Int.emod_nonneg _ (by omega), Int.emod_lt_of_pos _ (by omega)⟩
theorem rnd_bd (k w : Int) (v : Nat → Int) (hv : ∀ i, W32 (v i)) (i : Nat) : W32 (rnd k w v i) := by
 unfold rnd
 split <;> first | exact mod_bd _ | exact hv _ | exact ⟨by omega, by omega⟩
theorem rds_bd (h b : Nat → Int) (hh : ∀ i, W32 (h i)) (n : Nat) : ∀ i, W32 (rds h b n i) := by
 induction n with
 | zero => exact hh
 | succ n ih => exact rnd_bd _ _ _ ih
def blk (h b : Nat → Int) (i : Nat) : Int := (rds h b 64 i + h i) % 4294967296
theorem blk_bd (h b : Nat → Int) (i : Nat) : W32 (blk h b i) := mod_bd _
def blkTo (h b : Nat → Int) (k : Nat) (i : Nat) : Int := if i < k then blk h b i else rds h b 64 i
theorem blkTo_succ (h b : Nat → Int) (k : Nat) : updI (blkTo h b k) k (blk h b k) = blkTo h b (k + 1) := by
 funext i
 unfold updI blkTo
 by_cases e : i = k
 ·subst e; rw [if_pos rfl, if_pos (by omega)]
 ·rw [if_neg e]
  by_cases h2 : i < k
  ·rw [if_pos h2, if_pos (by omega)]
  ·rw [if_neg h2, if_neg (by omega)]
theorem block_any (g b : Nat → Int) (hh : ∀ i, W32 (g i)) (hb : ∀ i, i < 64 → 0 ≤ b i ∧ b i < 256) (w : World) (hk0 : KT w) :
  Calls Tryz.prog 203 #[.agg (arr 8 g).toArray, .agg (arb 64 b).toArray] w fun e w' => e = .returned (.agg (arr 8 (blk g b)).toArray) ∧ Below w.heap.size w w' := by
 have HB := Lib.hid hb
 have HH := Lib.hid hh
 clear hb hh
 have HW := Lib.hid (sch_bd b HB.out)
 have H0 := (Blk.new w (arr 8 g).toArray 227).alloc (.cells (arb 64 b).toArray 229)
 have B0 : Blk ((w.alloc (.cells (arr 8 g).toArray 227)).alloc (.cells (arb 64 b).toArray 229)) (w.heap.size + 1) (arb 64 b).toArray := Blk.new' (by simp)
 go_enter Tryz.func203, Tryz.ntmps203
 have B1 := B0.alloc (.cells #[Value.int .u32 0, Value.int .u32 0, Value.int .u32 0, Value.int .u32 0, Value.int .u32 0, Value.int .u32 0, Value.int .u32 0, Value.int .u32 0] 227)
 go_wp2_with (refine wpList_rowLoad row64b rfl (.tmp 3) rfl rfl (arb_len 64 _) B1 ?_)
 refine (spread_any b HB.out _).mono ?_
 rintro e w1 ⟨rfl, hb1⟩
 have H1 := (H0.alloc (.cells #[Value.int .u32 0, Value.int .u32 0, Value.int .u32 0, Value.int .u32 0, Value.int .u32 0, Value.int .u32 0, Value.int .u32 0, Value.int .u32 0] 227)).keep hb1
 have hb2 : Below w.heap.size w w1 := (Below.allocS (Below.allocS (Below.allocS (Below.refl _ w) (.cells (arr 8 g).toArray 227)) (.cells (arb 64 b).toArray 229)) (.cells #[Value.int .u32 0, Value.int .u32 0, Value.int .u32 0, Value.int .u32 0, Value.int .u32 0, Value.int .u32 0, Value.int .u32 0, Value.int .u32 0] 227)).trans (hb1.mono (by simp; omega))
 have R1 : Blk w1 (w.heap.size + 1 + 1) (arr 8 fun _ => 0).toArray := by rw [zero8w]; exact (Blk.new' (by simp)).keep hb1
 have hs1 : w.heap.size + 1 + 1 < w1.heap.size := R1.lt
 clear H0 B0 B1 hb1
 go_wp2_with (first
  | (refine wpList_rowStore row64w rfl rfl (.tmp 5) (.tmp 14) rfl rfl rfl (arr_len 64 _) (arr_one 64 _) (us := (arr 64 fun _ => 0)) (by simp) (by rw [zero64w]; exact Blk.new' (by simp)) ?_; intro w2 S2 m2; have H2 := (H1.alloc _).mod m2 (by simp; omega))
  | (refine wpList_rowLoad row8w rfl (.tmp 2) rfl rfl (arr_len 8 g) (by assumption) ?_)
  | (refine wpList_rowStore row8w rfl rfl (.tmp 6) (.tmp 15) rfl rfl rfl (arr_len 8 _) (arr_one 8 _) (us := (arr 8 fun _ => 0)) (by simp) (by rw [zero8w]; exact Blk.new' (by simp)) ?_; intro w3 V3 m3))
 have R3 := ((R1.alloc (.cells #[Value.int .u32 0, Value.int .u32 0, Value.int .u32 0, Value.int .u32 0, Value.int .u32 0, Value.int .u32 0, Value.int .u32 0, Value.int .u32 0, Value.int .u32 0, Value.int .u32 0, Value.int .u32 0, Value.int .u32 0, Value.int .u32 0, Value.int .u32 0, Value.int .u32 0, Value.int .u32 0, Value.int .u32 0, Value.int .u32 0, Value.int .u32 0, Value.int .u32 0, Value.int .u32 0, Value.int .u32 0, Value.int .u32 0, Value.int .u32 0, Value.int .u32 0, Value.int .u32 0, Value.int .u32 0, Value.int .u32 0, Value.int .u32 0, Value.int .u32 0, Value.int .u32 0, Value.int .u32 0, Value.int .u32 0, Value.int .u32 0, Value.int .u32 0, Value.int .u32 0, Value.int .u32 0, Value.int .u32 0, Value.int .u32 0, Value.int .u32 0, Value.int .u32 0, Value.int .u32 0, Value.int .u32 0, Value.int .u32 0, Value.int .u32 0, Value.int .u32 0, Value.int .u32 0, Value.int .u32 0, Value.int .u32 0, Value.int .u32 0, Value.int .u32 0, Value.int .u32 0, Value.int .u32 0, Value.int .u32 0, Value.int .u32 0, Value.int .u32 0, Value.int .u32 0, Value.int .u32 0, Value.int .u32 0, Value.int .u32 0, Value.int .u32 0, Value.int .u32 0, Value.int .u32 0, Value.int .u32 0] 249)).mod m2 (by simp; omega))
 have R4 := ((R3.alloc (.cells #[Value.int .u32 0, Value.int .u32 0, Value.int .u32 0, Value.int .u32 0, Value.int .u32 0, Value.int .u32 0, Value.int .u32 0, Value.int .u32 0] 227)).mod m3 (by simp; have := S2.lt; omega))
 have S4 := ((S2.alloc (.cells #[Value.int .u32 0, Value.int .u32 0, Value.int .u32 0, Value.int .u32 0, Value.int .u32 0, Value.int .u32 0, Value.int .u32 0, Value.int .u32 0] 227)).mod m3 (by simp; have := S2.lt; omega))
 have H4 := ((H2.alloc (.cells #[Value.int .u32 0, Value.int .u32 0, Value.int .u32 0, Value.int .u32 0, Value.int .u32 0, Value.int .u32 0, Value.int .u32 0, Value.int .u32 0] 227)).mod m3 (by simp; have := S2.lt; omega))
 have hb4 : Below w.heap.size w w3 := Below.mod (Below.allocS (Below.mod (Below.allocS hb2 (.cells #[Value.int .u32 0, Value.int .u32 0, Value.int .u32 0, Value.int .u32 0, Value.int .u32 0, Value.int .u32 0, Value.int .u32 0, Value.int .u32 0, Value.int .u32 0, Value.int .u32 0, Value.int .u32 0, Value.int .u32 0, Value.int .u32 0, Value.int .u32 0, Value.int .u32 0, Value.int .u32 0, Value.int .u32 0, Value.int .u32 0, Value.int .u32 0, Value.int .u32 0, Value.int .u32 0, Value.int .u32 0, Value.int .u32 0, Value.int .u32 0, Value.int .u32 0, Value.int .u32 0, Value.int .u32 0, Value.int .u32 0, Value.int .u32 0, Value.int .u32 0, Value.int .u32 0, Value.int .u32 0, Value.int .u32 0, Value.int .u32 0, Value.int .u32 0, Value.int .u32 0, Value.int .u32 0, Value.int .u32 0, Value.int .u32 0, Value.int .u32 0, Value.int .u32 0, Value.int .u32 0, Value.int .u32 0, Value.int .u32 0, Value.int .u32 0, Value.int .u32 0, Value.int .u32 0, Value.int .u32 0, Value.int .u32 0, Value.int .u32 0, Value.int .u32 0, Value.int .u32 0, Value.int .u32 0, Value.int .u32 0, Value.int .u32 0, Value.int .u32 0, Value.int .u32 0, Value.int .u32 0, Value.int .u32 0, Value.int .u32 0, Value.int .u32 0, Value.int .u32 0, Value.int .u32 0, Value.int .u32 0] 249)) m2 (by simp; omega) (by simp; omega)) (.cells #[Value.int .u32 0, Value.int .u32 0, Value.int .u32 0, Value.int .u32 0, Value.int .u32 0, Value.int .u32 0, Value.int .u32 0, Value.int .u32 0] 227)) m3 (by simp; have := S2.lt; omega) (by simp; have := S2.lt; omega)
 have hs2 := S2.lt
 have hn1 : w1.heap.size ≠ w.heap.size := by omega
 have hn2 : w2.heap.size ≠ w.heap.size := by omega
 have hn3 : w2.heap.size ≠ w1.heap.size := by omega
 have hn4 : w2.heap.size ≠ w.heap.size + 1 + 1 := by omega
 clear m2 m3 R1 R3 S2 H1 H2 hb2
 have hk4 := hk0.keep hb4
 generalize hp : w1.heap.size = p at *
 generalize hq : w2.heap.size = q at *
 clear hp hq
 have HN := Lib.hid (And.intro hn1 (And.intro hn2 (And.intro hn3 (And.intro hn4 (And.intro hs1 hs2)))))
 clear hn1 hn2 hn3 hn4 hs1 hs2
 go_loopw [16] (fun s16 wr => ∃ k : Nat, k ≤ 64 ∧ s16 = .int .i64 k ∧ Blk wr p (arr 64 (sch b)).toArray ∧ Blk wr q (arr 8 (rds g b k)).toArray ∧ Blk wr w.heap.size (arr 8 g).toArray ∧ Blk wr (w.heap.size + 1 + 1) (arr 8 fun _ => 0).toArray ∧ Below w.heap.size w wr ∧ KT wr) (fun s16 _ => 64 - (intOf s16).toNat)
 case atStart => exact ⟨0, by omega, rfl, S4, V3, H4, R4, hb4, hk4⟩
 case round =>
  clear S4 V3 H4 R4 hb4 hk4
  obtain ⟨k, hk, rfl, S, V, HB8, R, hb, hkt⟩ := hrel
  rename_i wr
  by_cases hlt : k < 64
  ·have v0 := V.cell 0
   have v1 := V.cell 1
   have v2 := V.cell 2
   have v3 := V.cell 3
   have v4 := V.cell 4
   have v5 := V.cell 5
   have v6 := V.cell 6
   have v7 := V.cell 7
   rw [arr_at 8 _ _ (by omega)] at v0 v1 v2 v3 v4 v5 v6 v7
   have s0 := S.cell k
   rw [arr_at 64 _ _ (by omega)] at s0
   have g0 := hkt.cell k hlt
   have x0 := rds_bd g b HH.out k 0
   have x1 := rds_bd g b HH.out k 1
   have x2 := rds_bd g b HH.out k 2
   have x3 := rds_bd g b HH.out k 3
   have x4 := rds_bd g b HH.out k 4
   have x5 := rds_bd g b HH.out k 5
   have x6 := rds_bd g b HH.out k 6
   have x7 := rds_bd g b HH.out k 7
   obtain ⟨y0, y0'⟩ := HW.out k
   obtain ⟨z0, z0'⟩ := kc_bd k
   obtain ⟨x0, x0'⟩ := x0
   obtain ⟨x1, x1'⟩ := x1
   obtain ⟨x2, x2'⟩ := x2
   obtain ⟨x3, x3'⟩ := x3
   obtain ⟨x4, x4'⟩ := x4
   obtain ⟨x5, x5'⟩ := x5
   obtain ⟨x6, x6'⟩ := x6
   obtain ⟨x7, x7'⟩ := x7
   have hlt' : (k : Int) < 64 := by omega
   have HR : Hid (rds g b (k + 1) = rnd (kc k) (sch b k) (rds g b k)) := Lib.hid rfl
   have H8 : Hid ((arr 8 (rds g b (k + 1))).toArray = #[.int .u32 ((rds g b k 7 + bS1 (rds g b k 4) + chI (rds g b k 4) (rds g b k 5) (rds g b k 6) + kc k + sch b k + (bS0 (rds g b k 0) + majI (rds g b k 0) (rds g b k 1) (rds g b k 2))) % 4294967296), .int .u32 (rds g b k 0), .int .u32 (rds g b k 1), .int .u32 (rds g b k 2), .int .u32 ((rds g b k 3 + (rds g b k 7 + bS1 (rds g b k 4) + chI (rds g b k 4) (rds g b k 5) (rds g b k 6) + kc k + sch b k)) % 4294967296), .int .u32 (rds g b k 4), .int .u32 (rds g b k 5), .int .u32 (rds g b k 6)]) := Lib.hid rfl
   generalize sch b k = wc at *
   generalize kc k = kk at *
   generalize rds g b k 0 = a0 at *
   generalize rds g b k 1 = a1 at *
   generalize rds g b k 2 = a2 at *
   generalize rds g b k 3 = a3 at *
   generalize rds g b k 4 = a4 at *
   generalize rds g b k 5 = a5 at *
   generalize rds g b k 6 = a6 at *
   generalize rds g b k 7 = a7 at *
   go_wp2_with fail
   go_quiet (fail)
   go_wp2_with fail
   go_quiet ((go_at_call 206; exact quietD (rot_any _ _ (by omega) (by omega) (by omega) (by omega))))
   go_wp2_with fail
   go_quiet ((go_at_call 206; exact quietD (rot_any _ _ (by omega) (by omega) (by omega) (by omega))))
   go_wp2_with (refine wpList_rowStore row8w rfl rfl (.tmp 6) (.tmp 94) rfl rfl rfl rfl (by simp [Value.oneCell']) (us := arr 8 _) (arr_len 8 _) (V.drewN _) ?_; intro w5 V5 m5)
   have V6 : Blk w5 q (arr 8 (rds g b (k + 1))).toArray := by rw [H8.out]; exact V5
   obtain ⟨n1, n2, n3, n4, n5, n6⟩ := HN.out
   have hb6 := Below.mod (below_drewN hb _) m5 (by simp; exact hb.size) (by simp; omega)
   exact ⟨⟨k + 1, by omega, by go_num, (S.drewN _).mod m5 (by simp; omega), V6, (HB8.drewN _).mod m5 (by simp; omega), (R.drewN _).mod m5 (by simp; omega), hb6, hk0.keep hb6⟩, by simp [intOf]; omega⟩
  ·have hke : k = 64 := by omega
   subst hke
   rw [show ((64 : Nat) : Int) = 64 from rfl]
   go_wp2_with fail
   go_loopw [96] (fun s96 wr => ∃ k : Nat, k ≤ 8 ∧ s96 = .int .i64 k ∧ Blk wr q (arr 8 (blkTo g b k)).toArray ∧ Blk wr w.heap.size (arr 8 g).toArray ∧ Blk wr (w.heap.size + 1 + 1) (arr 8 fun _ => 0).toArray ∧ Below w.heap.size w wr) (fun s96 _ => 8 - (intOf s96).toNat)
   case atStart => exact ⟨0, by omega, rfl, by rw [show blkTo g b 0 = rds g b 64 from by funext i; simp [blkTo]]; exact V, HB8, R, hb⟩
   case round =>
    clear S V HB8 R hb hkt
    obtain ⟨k, hk, rfl, V, HB8, R, hb⟩ := hrel
    rename_i wq
    by_cases hlt : k < 8
    ·have hlt' : (k : Int) < 8 := by omega
     have v0 := V.cell k
     rw [arr_at 8 _ _ (by omega)] at v0
     have d1 := V.froz
     have u0 := HB8.cell k
     rw [arr_at 8 _ _ (by omega)] at u0
     have HE : Hid (blk g b k = (blkTo g b k k + g k) % 4294967296) := Lib.hid (by simp [blkTo, blk])
     have x0 : W32 (blkTo g b k k) := by simp only [blkTo]; rw [if_neg (by omega)]; exact rds_bd g b HH.out 64 k
     obtain ⟨x0, x0'⟩ := x0
     obtain ⟨y0, y0'⟩ := HH.out k
     have V1 := V.set k (.int .u32 (blk g b k))
     rw [arr_set, blkTo_succ, HE.out] at V1
     obtain ⟨n1, n2, n3, n4, n5, n6⟩ := HN.out
     have HV := Lib.hid V1
     clear V1
     generalize blkTo g b k k = a at *
     generalize g k = c at *
     go_wp2_with fail
     go_region
     all_goals go_wp2_with fail
     all_goals exact ⟨⟨k + 1, by omega, by go_num, HV.out.drew, (HB8.other (by simp; omega) _).drew, (R.other (by simp; omega) _).drew, (hb.setCell (by simp; omega) _).drew⟩, by simp [intOf]; omega⟩
    ·have hke : k = 8 := by omega
     subst hke
     have hse : arr 8 (blkTo g b 8) = arr 8 (blk g b) := arr_ext (fun i hi => if_pos hi)
     rw [hse] at V
     go_wp2_with (first
      | (refine wpList_rowLoad row8w rfl (.tmp 6) rfl rfl (arr_len 8 _) V ?_)
      | (refine wpList_rowStore row8w rfl rfl (.tmp 4) (.tmp 108) rfl rfl rfl (arr_len 8 _) (arr_one 8 _) (arr_len 8 _) R ?_; intro w6 R6 m6))
     refine bodyPost_ret (results_cell1 rfl _ _ _ _ rfl (row_loadVar row8w _ (arr_len 8 _) R6)) rfl ?_
     exact ⟨rfl, Below.mod hb m6 (by have := hb.size; omega) (by simp; omega)⟩
end Go.Proofs.YthgjdaomcpinaaaGreatDoor
namespace Go.Proofs.YthgjdaomcpinaaaGreatDoor
open Go.RowKit
def firstW (i : Nat) : Int := [0x6a09e667, 0xbb67ae85, 0x3c6ef372, 0xa54ff53a, 0x510e527f, 0x9b05688c, 0x1f83d9ab, 0x5be0cd19].getD i 0
theorem firstW_bd (i : Nat) : W32 (firstW i) := by
 by_cases h : i < 8
 ·have : ∀ i : Fin 8, 0 ≤ firstW i.1 ∧ firstW i.1 < 4294967296 := by decide
  exact this ⟨i, h⟩
 ·unfold firstW
  rw [List.getD_eq_getElem?_getD, List.getElem?_eq_none (by simp; omega)]
  exact ⟨by decide, by decide⟩
def byteAt (h : Nat → Int) (j : Nat) : Int := h (j / 4) / (if j % 4 = 0 then 16777216 else if j % 4 = 1 then 65536 else if j % 4 = 2 then 256 else 1) % 256
def toldP (h : Nat → Int) : List UInt8 := (List.range 32).map fun j => UInt8.ofNat (byteAt h j).toNat
theorem toldP_len (h : Nat → Int) : (toldP h).length = 32 := by simp [toldP]
def tb (h : Nat → Int) (k : Nat) : Nat → Int := fun j => if j < 4 * k then byteAt h j else 0
theorem tb_succ (h : Nat → Int) (k : Nat) : updI (updI (updI (updI (tb h k) (4 * k) (byteAt h (4 * k))) (4 * k + 1) (byteAt h (4 * k + 1))) (4 * k + 2) (byteAt h (4 * k + 2))) (4 * k + 3) (byteAt h (4 * k + 3)) = tb h (k + 1) := by
 funext j
 unfold updI tb
 by_cases h3 : j = 4 * k + 3
 ·subst h3; rw [if_pos rfl, if_pos (by omega)]
 rw [if_neg h3]
 by_cases h2 : j = 4 * k + 2
 ·subst h2; rw [if_pos rfl, if_pos (by omega)]
 rw [if_neg h2]
 by_cases h1 : j = 4 * k + 1
 ·subst h1; rw [if_pos rfl, if_pos (by omega)]
 rw [if_neg h1]
 by_cases h0 : j = 4 * k
 ·subst h0; rw [if_pos rfl, if_pos (by omega)]
 rw [if_neg h0]
 by_cases hl : j < 4 * k
 ·rw [if_pos hl, if_pos (by omega)]
 ·rw [if_neg hl, if_neg (by omega)]
theorem byteAt_bd (h : Nat → Int) (j : Nat) : 0 ≤ byteAt h j ∧ byteAt h j < 256 := ⟨Int.emod_nonneg _ (by omega), Int.emod_lt_of_pos _ (by omega)⟩
theorem byteAt_0 (h : Nat → Int) (k : Nat) : byteAt h (4 * k) = h k / 16777216 % 256 := by
 unfold byteAt
 rw [show 4 * k / 4 = k from by omega, if_pos (by omega)]
theorem byteAt_1 (h : Nat → Int) (k : Nat) : byteAt h (4 * k + 1) = h k / 65536 % 256 := by
 unfold byteAt
 rw [show (4 * k + 1) / 4 = k from by omega, if_neg (by omega), if_pos (by omega)]
theorem byteAt_2 (h : Nat → Int) (k : Nat) : byteAt h (4 * k + 2) = h k / 256 % 256 := by
 unfold byteAt
 rw [show (4 * k + 2) / 4 = k from by omega, if_neg (by omega), if_neg (by omega), if_pos (by omega)]
theorem byteAt_3 (h : Nat → Int) (k : Nat) : byteAt h (4 * k + 3) = h k % 256 := by
 unfold byteAt
 rw [show (4 * k + 3) / 4 = k from by omega, if_neg (by omega), if_neg (by omega), if_neg (by omega), Int.ediv_one]
theorem first_lit : (arr 8 firstW).toArray = #[.int .u32 1779033703, .int .u32 3144134277, .int .u32 1013904242, .int .u32 2773480762, .int .u32 1359893119, .int .u32 2600822924, .int .u32 528734635, .int .u32 1541459225] := rfl
theorem first_any (w : World) : Calls Tryz.prog 193 #[] w fun e w' => e = .returned (.agg (arr 8 firstW).toArray) ∧ Below w.heap.size w w' := by
 go_enter Tryz.func193, Tryz.ntmps193
 go_wp2_with (refine wpList_rowStore row8w rfl rfl (.tmp 0) (.tmp 1) rfl rfl (vs := arr 8 firstW) rfl (arr_len 8 _) (arr_one 8 _) (us := (arr 8 fun _ => 0)) (arr_len 8 _) (by rw [zero8w]; exact Blk.new' (by simp)) ?_; intro w2 S2 m2)
 refine bodyPost_ret (results_cell1 rfl _ _ _ _ rfl (row_loadVar row8w _ (arr_len 8 _) S2)) rfl ?_
 exact ⟨rfl, Below.mod (Below.allocS (Below.refl _ _) _) m2 (by simp) (by simp)⟩
theorem rfirst_any (w : World) : Calls Tryz.prog 190 #[] w fun e w' => e = .returned (.agg (arr 8 firstW).toArray) ∧ Below w.heap.size w w' := by
 go_enter Tryz.func190, Tryz.ntmps190
 go_wp2_with (refine wpList_rowStore row8w rfl rfl (.tmp 0) (.tmp 1) rfl rfl (vs := arr 8 firstW) rfl (arr_len 8 _) (arr_one 8 _) (us := (arr 8 fun _ => 0)) (arr_len 8 _) (by rw [zero8w]; exact Blk.new' (by simp)) ?_; intro w2 S2 m2)
 refine bodyPost_ret (results_cell1 rfl _ _ _ _ rfl (row_loadVar row8w _ (arr_len 8 _) S2)) rfl ?_
 exact ⟨rfl, Below.mod (Below.allocS (Below.refl _ _) _) m2 (by simp) (by simp)⟩
theorem infoU32 : (Tryz.prog.info? 196).map (fun i => (i.zero, i.size, i.bytes)) = some (some (.int .u32 0), 1, 4) := by kernel_rfl
theorem arr8_index (f : Nat → Int) (k : Nat) (hk : k < 8) (w : World) : (Instr.index 227 (.agg (arr 8 f).toArray) (.int .i64 (k : Int))).run Tryz.prog w = .ok (.int .u32 (f k)) w := by
 obtain ⟨i0, hi, _, hs, _⟩ := info_parts infoU32
 have hp : (Tryz.prog).plainKey 196 = true := by simp [Program.plainKey, Tryz.underlying196]
 have hpart := run_part_plain (P := Tryz.prog) w hp (off := k) (xs := (arr 8 f).toArray) (by simpa using arr_at 8 f k hk)
 have hsz : (Go.sizeOf 196).run Tryz.prog w = .ok 1 w := by simp [Go.sizeOf, typeInfo, hi, hs]
 have hk' : (0 : Int) ≤ (k : Int) ∧ (k : Int) < 8 := by omega
 simp [Instr.index, asIntOf, run_underlying Tryz.underlying227, hk', hsz, hpart, Sem.run_bind]
 intro h
 omega
theorem zero32b : (arb 32 fun _ => 0).toArray = #[Value.int .u8 0, Value.int .u8 0, Value.int .u8 0, Value.int .u8 0, Value.int .u8 0, Value.int .u8 0, Value.int .u8 0, Value.int .u8 0, Value.int .u8 0, Value.int .u8 0, Value.int .u8 0, Value.int .u8 0, Value.int .u8 0, Value.int .u8 0, Value.int .u8 0, Value.int .u8 0, Value.int .u8 0, Value.int .u8 0, Value.int .u8 0, Value.int .u8 0, Value.int .u8 0, Value.int .u8 0, Value.int .u8 0, Value.int .u8 0, Value.int .u8 0, Value.int .u8 0, Value.int .u8 0, Value.int .u8 0, Value.int .u8 0, Value.int .u8 0, Value.int .u8 0, Value.int .u8 0] := rfl
theorem told_any (g : Nat → Int) (hh : ∀ i, W32 (g i)) (w : World) : Calls Tryz.prog 195 #[.agg (arr 8 g).toArray] w fun e w' => e = .returned (.string ⟨List.toArray (toldP g)⟩) ∧ Below w.heap.size w w' := by
 have HH := Lib.hid hh
 clear hh
 have hB := (Blk.new w (arr 8 g).toArray 227).alloc (.cells #[Value.int .u8 0, Value.int .u8 0, Value.int .u8 0, Value.int .u8 0, Value.int .u8 0, Value.int .u8 0, Value.int .u8 0, Value.int .u8 0, Value.int .u8 0, Value.int .u8 0, Value.int .u8 0, Value.int .u8 0, Value.int .u8 0, Value.int .u8 0, Value.int .u8 0, Value.int .u8 0, Value.int .u8 0, Value.int .u8 0, Value.int .u8 0, Value.int .u8 0, Value.int .u8 0, Value.int .u8 0, Value.int .u8 0, Value.int .u8 0, Value.int .u8 0, Value.int .u8 0, Value.int .u8 0, Value.int .u8 0, Value.int .u8 0, Value.int .u8 0, Value.int .u8 0, Value.int .u8 0] 245)
 go_enter Tryz.func195, Tryz.ntmps195
 go_wp2_with (refine wpList_rowLoad row8w rfl (.tmp 1) rfl rfl (arr_len 8 _) hB ?_)
 go_loopw [7] (fun s7 wr => ∃ k : Nat, k ≤ 8 ∧ s7 = .int .i64 k ∧ Blk wr (w.heap.size + 1) (arb 32 (tb g k)).toArray ∧ Below w.heap.size w wr) (fun s7 _ => 8 - (intOf s7).toNat)
 case atStart => exact ⟨0, by omega, rfl, by rw [show tb g 0 = fun _ => 0 from by funext i; simp [tb], zero32b]; exact Blk.new' (by simp), by (repeat (first | exact Below.refl _ _ | assumption | apply Below.drew | apply below_drewN | apply Below.allocS | (refine Below.setCell ?_ (by simp <;> omega) _) | (refine Below.alloc ?_ (by simp <;> omega) _) | (refine Below.trans ?_ (Below.mono (by assumption) (by simp <;> omega)))))⟩
 case round =>
  clear hB
  obtain ⟨k, hk, rfl, B, hb⟩ := hrel
  rename_i wr
  by_cases hlt : k < 8
  ·have hlt' : (k : Int) < 8 := by omega
   have hix := arr8_index g k hlt
   have HX := HH.out k
   have q0 := byteAt_0 g k
   have q1 := byteAt_1 g k
   have q2 := byteAt_2 g k
   have q3 := byteAt_3 g k
   have B1 := (((B.set (4 * k) (.int .u8 (byteAt g (4 * k)))).set (4 * k + 1) (.int .u8 (byteAt g (4 * k + 1)))).set (4 * k + 2) (.int .u8 (byteAt g (4 * k + 2)))).set (4 * k + 3) (.int .u8 (byteAt g (4 * k + 3)))
   rw [arb_set, arb_set, arb_set, arb_set, tb_succ, q0, q1, q2, q3] at B1
   rw [show g k / 16777216 % 256 = g k / 16777216 from by have := HX.1; have := HX.2; omega] at B1
   have HB1 := Lib.hid B1
   clear B1 q0 q1 q2 q3
   have c0 := B.cell (4 * k)
   rw [arb_at 32 _ _ (by omega)] at c0
   have c1 := B.cell (4 * k + 1)
   rw [arb_at 32 _ _ (by omega)] at c1
   have c2 := B.cell (4 * k + 2)
   rw [arb_at 32 _ _ (by omega)] at c2
   have c3 := B.cell (4 * k + 3)
   rw [arb_at 32 _ _ (by omega)] at c3
   have d := B.froz
   have t0 : (4 * (k : Int)).toNat = 4 * k := by omega
   have t1 : (4 * (k : Int) + 1).toNat = 4 * k + 1 := by omega
   have t2 : (4 * (k : Int) + 2).toNat = 4 * k + 2 := by omega
   have t3 : (4 * (k : Int) + 3).toNat = 4 * k + 3 := by omega
   generalize g k = x at *
   obtain ⟨x0, x1⟩ := HX
   go_wp2_with fail
   exact ⟨⟨k + 1, by omega, by go_num, HB1.out, (((hb.setCell (by simp) _).setCell (by simp) _).setCell (by simp) _).setCell (by simp) _⟩, by simp [intOf]; omega⟩
  ·have hke : k = 8 := by omega
   subst hke
   have hcv := conv_str (P := Tryz.prog) (w := wr) 113 5 9 Tryz.underlying113 Tryz.underlying5 Tryz.underlying9 (w.heap.size + 1) 0 32 32 (toldP g) (toldP_len g) (fun i hi => by
    rw [Nat.zero_add, B.cell i, arb_at 32 _ _ hi]
    have hb2 := byteAt_bd g i
    simp [toldP, hi, tb, List.getD]
    omega)
   go_wp2_with fail
   go_ret
   exact ⟨rfl, hb⟩
@[go_sem] theorem run_conv4 {P : Program} {W : World} (src dst g n : Nat) (hs : P.underlying src = some (.slice (P.elem src))) (he : P.underlying (P.elem src) = some (.int .u8)) (hd : P.underlying dst = some .string) :
  (convert src dst (.slice (some ⟨g, 0, none⟩) 4 n)).run P W = match W.cell? ⟨g, 0, none⟩, W.cell? ⟨g, 1, none⟩, W.cell? ⟨g, 2, none⟩, W.cell? ⟨g, 3, none⟩ with
   | some (.int .u8 x), some (.int .u8 y), some (.int .u8 z), some (.int .u8 u) => .ok (.string ⟨List.toArray [UInt8.ofNat x.toNat, UInt8.ofNat y.toNat, UInt8.ofNat z.toNat, UInt8.ofNat u.toNat]⟩) W
   | _, _, _, _ => (Conv.bytesToString (.slice (some ⟨g, 0, none⟩) 4 n)).run P W := by
 split
 ·rename_i x y z u h0 h1 h2 h3
  have h' := run_convert_bytes_arg (P := P) W src _ hs he g 0 4 n [x, y, z, u] rfl (fun i hi => by
   match i, hi with
   | 0, _ => simpa using h0
   | 1, _ => simpa using h1
   | 2, _ => simpa using h2
   | 3, _ => simpa using h3) dst hd
  rw [h']; rfl
 ·exact run_convert_bytes_string W src dst _ _ 4 n hs he hd
theorem toldP_take (g : Nat → Int) (k : Nat) (hk : k < 8) : (toldP g).take (4 * (k + 1)) = (toldP g).take (4 * k) ++ [UInt8.ofNat (byteAt g (4 * k)).toNat, UInt8.ofNat (byteAt g (4 * k + 1)).toNat, UInt8.ofNat (byteAt g (4 * k + 2)).toNat, UInt8.ofNat (byteAt g (4 * k + 3)).toNat] := by
 have hl := toldP_len g
 have hat : ∀ j (h : j < (toldP g).length), (toldP g)[j] = UInt8.ofNat (byteAt g j).toNat := fun j h => by simp [toldP]
 rw [show 4 * (k + 1) = 4 * k + 1 + 1 + 1 + 1 from by omega]
 rw [List.take_succ_eq_append_getElem (by omega), List.take_succ_eq_append_getElem (by omega), List.take_succ_eq_append_getElem (by omega), List.take_succ_eq_append_getElem (by omega)]
 simp [hat]
theorem rtold_any (g : Nat → Int) (hh : ∀ i, W32 (g i)) (w : World) : Calls Tryz.prog 192 #[.agg (arr 8 g).toArray] w fun e w' => e = .returned (.string ⟨List.toArray (toldP g)⟩) ∧ Below w.heap.size w w' := by
 have HH := Lib.hid hh
 clear hh
 have hB := Blk.new w (arr 8 g).toArray 227
 go_enter Tryz.func192, Tryz.ntmps192
 go_wp2_with fail
 go_loopw [3, 4] (fun s3 s4 wr => ∃ k : Nat, k ≤ 8 ∧ s4 = .int .i64 k ∧ s3 = .string ⟨List.toArray ((toldP g).take (4 * k))⟩ ∧ Blk wr w.heap.size (arr 8 g).toArray ∧ Below w.heap.size w wr) (fun _ s4 _ => 8 - (intOf s4).toNat)
 case atStart => exact ⟨0, by omega, rfl, by simp, hB, by (repeat (first | exact Below.refl _ _ | assumption | apply Below.drew | apply below_drewN | apply Below.allocS | (refine Below.setCell ?_ (by simp <;> omega) _) | (refine Below.alloc ?_ (by simp <;> omega) _) | (refine Below.trans ?_ (Below.mono (by assumption) (by simp <;> omega)))))⟩
 case round =>
  clear hB
  obtain ⟨k, hk, rfl, rfl, B, hb⟩ := hrel
  rename_i wr
  by_cases hlt : k < 8
  ·have hlt' : (k : Int) < 8 := by omega
   have HX := HH.out k
   have hts := toldP_take g k hlt
   rw [byteAt_0, byteAt_1, byteAt_2, byteAt_3] at hts
   rw [show g k / 16777216 % 256 = g k / 16777216 from by have := HX.1; have := HX.2; omega] at hts
   have HT := Lib.hid hts
   clear hts
   have hln : ((toldP g).take (4 * k)).length ≤ 32 := by rw [List.length_take, toldP_len]; omega
   have c0 := B.cell k
   rw [arr_at 8 _ _ hlt] at c0
   have bl := B.lt
   generalize g k = x at *
   generalize (toldP g).take (4 * k) = t at *
   obtain ⟨x0, x1⟩ := HX
   have hcat : ¬ 9223372036854775807 < t.length + 4 := by omega
   have q0 : IntKind.u8.wrap (x / 16777216) = x / 16777216 := by rw [IntKind.wrap_u8']; omega
   have q1 : IntKind.u8.wrap (x / 65536) = x / 65536 % 256 := by rw [IntKind.wrap_u8']
   have q2 : IntKind.u8.wrap (x / 256) = x / 256 % 256 := by rw [IntKind.wrap_u8']
   have q3 : IntKind.u8.wrap x = x % 256 := by rw [IntKind.wrap_u8']
   go_wp2_with fail
   go_region
   all_goals go_wp2_with fail
   all_goals exact ⟨⟨k + 1, by omega, by go_num, by rw [HT.out], (B.alloc _).drew, (Below.allocS hb _).drew⟩, by simp [intOf]; omega⟩
  ·have hke : k = 8 := by omega
   subst hke
   go_wp2_with fail
   go_ret
   exact ⟨by rw [List.take_of_length_le (by rw [toldP_len]; omega)]; rfl, hb⟩
end Go.Proofs.YthgjdaomcpinaaaGreatDoor
