/- Walks of layer 3: the words at the beginning, the words' bytes. -/
import Derived.Test.YtmldonbmjgelnaaDoorShaB
import Derived.Test.YtmldonbmjgelnaaDoorBs
set_option linter.unusedSimpArgs false
set_option linter.unusedVariables false
namespace Go.Proofs.YtmldonbmjgelnaaDoor
open Go.RowKit

def firstW (i : Nat) : Int := [0x6a09e667, 0xbb67ae85, 0x3c6ef372, 0xa54ff53a, 0x510e527f, 0x9b05688c, 0x1f83d9ab, 0x5be0cd19].getD i 0
theorem firstW_bd (i : Nat) : W32 (firstW i) := by
  by_cases h : i < 8
  · have : ∀ i : Fin 8, 0 ≤ firstW i.1 ∧ firstW i.1 < 4294967296 := by decide
    exact this ⟨i, h⟩
  · unfold firstW
    rw [List.getD_eq_getElem?_getD, List.getElem?_eq_none (by simp; omega)]
    exact ⟨by decide, by decide⟩
/-- The j-th byte of words. -/
def byteAt (h : Nat → Int) (j : Nat) : Int := h (j / 4) / (if j % 4 = 0 then 16777216 else if j % 4 = 1 then 65536 else if j % 4 = 2 then 256 else 1) % 256
def toldP (h : Nat → Int) : List UInt8 := (List.range 32).map fun j => UInt8.ofNat (byteAt h j).toNat
theorem toldP_len (h : Nat → Int) : (toldP h).length = 32 := by simp [toldP]
def tb (h : Nat → Int) (k : Nat) : Nat → Int := fun j => if j < 4 * k then byteAt h j else 0
theorem tb_succ (h : Nat → Int) (k : Nat) : updI (updI (updI (updI (tb h k) (4 * k) (byteAt h (4 * k))) (4 * k + 1) (byteAt h (4 * k + 1))) (4 * k + 2) (byteAt h (4 * k + 2))) (4 * k + 3) (byteAt h (4 * k + 3)) = tb h (k + 1) := by
  funext j
  unfold updI tb
  by_cases h3 : j = 4 * k + 3
  · subst h3; rw [if_pos rfl, if_pos (by omega)]
  rw [if_neg h3]
  by_cases h2 : j = 4 * k + 2
  · subst h2; rw [if_pos rfl, if_pos (by omega)]
  rw [if_neg h2]
  by_cases h1 : j = 4 * k + 1
  · subst h1; rw [if_pos rfl, if_pos (by omega)]
  rw [if_neg h1]
  by_cases h0 : j = 4 * k
  · subst h0; rw [if_pos rfl, if_pos (by omega)]
  rw [if_neg h0]
  by_cases hl : j < 4 * k
  · rw [if_pos hl, if_pos (by omega)]
  · rw [if_neg hl, if_neg (by omega)]
theorem byteAt_bd (h : Nat → Int) (j : Nat) : 0 ≤ byteAt h j ∧ byteAt h j < 256 := ⟨Int.emod_nonneg _ (by omega), Int.emod_lt_of_pos _ (by omega)⟩
theorem byteAt_0 (h : Nat → Int) (k : Nat) : byteAt h (4 * k) = h k / 16777216 % 256 := by
  unfold byteAt
  rw [show 4 * k / 4 = k from by omega, if_pos (by omega)]
theorem byteAt_1 (h : Nat → Int) (k : Nat) : byteAt h (4 * k + 1) = h k / 65536 % 256 := by
  unfold byteAt
  rw [show (4 * k + 1) / 4 = k from by omega, if_neg (by omega), if_pos (by omega)]
theorem byteAt_2 (h : Nat → Int) (k : Nat) : byteAt h (4 * k + 2) = h k / 256 % 256 := by
  unfold byteAt
  rw [show (4 * k + 2) / 4 = k from by omega, if_neg (by omega), if_neg (by omega), if_pos (by omega)]
theorem byteAt_3 (h : Nat → Int) (k : Nat) : byteAt h (4 * k + 3) = h k % 256 := by
  unfold byteAt
  rw [show (4 * k + 3) / 4 = k from by omega, if_neg (by omega), if_neg (by omega), if_neg (by omega), Int.ediv_one]

theorem first_lit : (arr 8 firstW).toArray = #[.int .u32 1779033703, .int .u32 3144134277, .int .u32 1013904242, .int .u32 2773480762, .int .u32 1359893119, .int .u32 2600822924, .int .u32 528734635, .int .u32 1541459225] := rfl

theorem first_any (w : World) : Calls Tryd.prog 120 #[] w fun e w' => e = .returned (.agg (arr 8 firstW).toArray) ∧ Below w.heap.size w w' := by
  go_enter Tryd.func120, Tryd.ntmps120
  go_wp2_with (refine wpList_rowStore row8w rfl rfl (.tmp 0) (.tmp 1) rfl rfl (vs := arr 8 firstW) rfl (arr_len 8 _) (arr_one 8 _) (us := (arr 8 fun _ => 0)) (arr_len 8 _) (by rw [zero8w]; exact Blk.new' (by simp)) ?_; intro w2 S2 m2)
  refine bodyPost_ret (results_cell1 rfl _ _ _ _ rfl (row_loadVar row8w _ (arr_len 8 _) S2)) rfl ?_
  exact ⟨rfl, Below.mod (Below.allocS (Below.refl _ _) _) m2 (by simp) (by simp)⟩
theorem rfirst_any (w : World) : Calls Tryd.prog 117 #[] w fun e w' => e = .returned (.agg (arr 8 firstW).toArray) ∧ Below w.heap.size w w' := by
  go_enter Tryd.func117, Tryd.ntmps117
  go_wp2_with (refine wpList_rowStore row8w rfl rfl (.tmp 0) (.tmp 1) rfl rfl (vs := arr 8 firstW) rfl (arr_len 8 _) (arr_one 8 _) (us := (arr 8 fun _ => 0)) (arr_len 8 _) (by rw [zero8w]; exact Blk.new' (by simp)) ?_; intro w2 S2 m2)
  refine bodyPost_ret (results_cell1 rfl _ _ _ _ rfl (row_loadVar row8w _ (arr_len 8 _) S2)) rfl ?_
  exact ⟨rfl, Below.mod (Below.allocS (Below.refl _ _) _) m2 (by simp) (by simp)⟩

theorem infoU32 : (Tryd.prog.info? 126).map (fun i => (i.zero, i.size, i.bytes)) = some (some (.int .u32 0), 1, 4) := by kernel_rfl
theorem arr8_index (f : Nat → Int) (k : Nat) (hk : k < 8) (w : World) : (Instr.index 127 (.agg (arr 8 f).toArray) (.int .i64 (k : Int))).run Tryd.prog w = .ok (.int .u32 (f k)) w := by
  obtain ⟨i0, hi, _, hs, _⟩ := info_parts infoU32
  have hp : (Tryd.prog).plainKey 126 = true := by simp [Program.plainKey, Tryd.underlying126]
  have hpart := run_part_plain (P := Tryd.prog) w hp (off := k) (xs := (arr 8 f).toArray) (by simpa using arr_at 8 f k hk)
  have hsz : (Go.sizeOf 126).run Tryd.prog w = .ok 1 w := by simp [Go.sizeOf, typeInfo, hi, hs]
  have hk' : (0 : Int) ≤ (k : Int) ∧ (k : Int) < 8 := by omega
  simp [Instr.index, asIntOf, run_underlying Tryd.underlying127, hk', hsz, hpart, Sem.run_bind]
  intro h
  omega

theorem zero32b : (arb 32 fun _ => 0).toArray = #[Value.int .u8 0, Value.int .u8 0, Value.int .u8 0, Value.int .u8 0, Value.int .u8 0, Value.int .u8 0, Value.int .u8 0, Value.int .u8 0, Value.int .u8 0, Value.int .u8 0, Value.int .u8 0, Value.int .u8 0, Value.int .u8 0, Value.int .u8 0, Value.int .u8 0, Value.int .u8 0, Value.int .u8 0, Value.int .u8 0, Value.int .u8 0, Value.int .u8 0, Value.int .u8 0, Value.int .u8 0, Value.int .u8 0, Value.int .u8 0, Value.int .u8 0, Value.int .u8 0, Value.int .u8 0, Value.int .u8 0, Value.int .u8 0, Value.int .u8 0, Value.int .u8 0, Value.int .u8 0] := rfl
set_option maxRecDepth 100000 in
set_option maxHeartbeats 1000000 in
theorem told_any (g : Nat → Int) (hh : ∀ i, W32 (g i)) (w : World) : Calls Tryd.prog 122 #[.agg (arr 8 g).toArray] w fun e w' => e = .returned (.string ⟨List.toArray (toldP g)⟩) ∧ Below w.heap.size w w' := by
  have HH := Lib.hid hh
  clear hh
  have hB := (Blk.new w (arr 8 g).toArray 127).alloc (.cells #[Value.int .u8 0, Value.int .u8 0, Value.int .u8 0, Value.int .u8 0, Value.int .u8 0, Value.int .u8 0, Value.int .u8 0, Value.int .u8 0, Value.int .u8 0, Value.int .u8 0, Value.int .u8 0, Value.int .u8 0, Value.int .u8 0, Value.int .u8 0, Value.int .u8 0, Value.int .u8 0, Value.int .u8 0, Value.int .u8 0, Value.int .u8 0, Value.int .u8 0, Value.int .u8 0, Value.int .u8 0, Value.int .u8 0, Value.int .u8 0, Value.int .u8 0, Value.int .u8 0, Value.int .u8 0, Value.int .u8 0, Value.int .u8 0, Value.int .u8 0, Value.int .u8 0, Value.int .u8 0] 148)
  go_enter Tryd.func122, Tryd.ntmps122
  go_wp2_with (refine wpList_rowLoad row8w rfl (.tmp 1) rfl rfl (arr_len 8 _) hB ?_)
  go_loopw [7] (fun s7 wr => ∃ k : Nat, k ≤ 8 ∧ s7 = .int .i64 k ∧ Blk wr (w.heap.size + 1) (arb 32 (tb g k)).toArray ∧ Below w.heap.size w wr) (fun s7 _ => 8 - (intOf s7).toNat)
  case atStart => exact ⟨0, by omega, rfl, by rw [show tb g 0 = fun _ => 0 from by funext i; simp [tb], zero32b]; exact Blk.new' (by simp), by (repeat (first | exact Below.refl _ _ | assumption | apply Below.drew | apply below_drewN | apply Below.allocS | (refine Below.setCell ?_ (by simp <;> omega) _) | (refine Below.alloc ?_ (by simp <;> omega) _) | (refine Below.trans ?_ (Below.mono (by assumption) (by simp <;> omega)))))⟩
  case round =>
    clear hB
    obtain ⟨k, hk, rfl, B, hb⟩ := hrel
    rename_i wr
    by_cases hlt : k < 8
    · have hlt' : (k : Int) < 8 := by omega
      have hix := arr8_index g k hlt
      have HX := HH.out k
      have q0 := byteAt_0 g k
      have q1 := byteAt_1 g k
      have q2 := byteAt_2 g k
      have q3 := byteAt_3 g k
      have B1 := (((B.set (4 * k) (.int .u8 (byteAt g (4 * k)))).set (4 * k + 1) (.int .u8 (byteAt g (4 * k + 1)))).set (4 * k + 2) (.int .u8 (byteAt g (4 * k + 2)))).set (4 * k + 3) (.int .u8 (byteAt g (4 * k + 3)))
      rw [arb_set, arb_set, arb_set, arb_set, tb_succ, q0, q1, q2, q3] at B1
      rw [show g k / 16777216 % 256 = g k / 16777216 from by have := HX.1; have := HX.2; omega] at B1
      have HB1 := Lib.hid B1
      clear B1 q0 q1 q2 q3
      have c0 := B.cell (4 * k)
      rw [arb_at 32 _ _ (by omega)] at c0
      have c1 := B.cell (4 * k + 1)
      rw [arb_at 32 _ _ (by omega)] at c1
      have c2 := B.cell (4 * k + 2)
      rw [arb_at 32 _ _ (by omega)] at c2
      have c3 := B.cell (4 * k + 3)
      rw [arb_at 32 _ _ (by omega)] at c3
      have d := B.froz
      have t0 : (4 * (k : Int)).toNat = 4 * k := by omega
      have t1 : (4 * (k : Int) + 1).toNat = 4 * k + 1 := by omega
      have t2 : (4 * (k : Int) + 2).toNat = 4 * k + 2 := by omega
      have t3 : (4 * (k : Int) + 3).toNat = 4 * k + 3 := by omega
      generalize g k = x at *
      obtain ⟨x0, x1⟩ := HX
      go_wp2_with fail
      exact ⟨⟨k + 1, by omega, by go_num, HB1.out, (((hb.setCell (by simp) _).setCell (by simp) _).setCell (by simp) _).setCell (by simp) _⟩, by simp [intOf]; omega⟩
    · have hke : k = 8 := by omega
      subst hke
      have hcv := conv_str (P := Tryd.prog) (w := wr) 71 5 9 Tryd.underlying71 Tryd.underlying5 Tryd.underlying9 (w.heap.size + 1) 0 32 32 (toldP g) (toldP_len g) (fun i hi => by
        rw [Nat.zero_add, B.cell i, arb_at 32 _ _ hi]
        have hb2 := byteAt_bd g i
        simp [toldP, hi, tb, List.getD]
        omega)
      go_wp2_with fail
      go_ret
      exact ⟨rfl, hb⟩

@[go_sem] theorem run_conv4 {P : Program} {W : World} (src dst g n : Nat) (hs : P.underlying src = some (.slice (P.elem src))) (he : P.underlying (P.elem src) = some (.int .u8)) (hd : P.underlying dst = some .string) :
    (convert src dst (.slice (some ⟨g, 0, none⟩) 4 n)).run P W = match W.cell? ⟨g, 0, none⟩, W.cell? ⟨g, 1, none⟩, W.cell? ⟨g, 2, none⟩, W.cell? ⟨g, 3, none⟩ with
      | some (.int .u8 x), some (.int .u8 y), some (.int .u8 z), some (.int .u8 u) => .ok (.string ⟨List.toArray [UInt8.ofNat x.toNat, UInt8.ofNat y.toNat, UInt8.ofNat z.toNat, UInt8.ofNat u.toNat]⟩) W
      | _, _, _, _ => (Conv.bytesToString (.slice (some ⟨g, 0, none⟩) 4 n)).run P W := by
  split
  · rename_i x y z u h0 h1 h2 h3
    have h' := run_convert_bytes_arg (P := P) W src _ hs he g 0 4 n [x, y, z, u] rfl (fun i hi => by
      match i, hi with
      | 0, _ => simpa using h0
      | 1, _ => simpa using h1
      | 2, _ => simpa using h2
      | 3, _ => simpa using h3) dst hd
    rw [h']; rfl
  · exact run_convert_bytes_string W src dst _ _ 4 n hs he hd

theorem toldP_take (g : Nat → Int) (k : Nat) (hk : k < 8) : (toldP g).take (4 * (k + 1)) = (toldP g).take (4 * k) ++ [UInt8.ofNat (byteAt g (4 * k)).toNat, UInt8.ofNat (byteAt g (4 * k + 1)).toNat, UInt8.ofNat (byteAt g (4 * k + 2)).toNat, UInt8.ofNat (byteAt g (4 * k + 3)).toNat] := by
  have hl := toldP_len g
  have hat : ∀ j (h : j < (toldP g).length), (toldP g)[j] = UInt8.ofNat (byteAt g j).toNat := fun j h => by simp [toldP]
  rw [show 4 * (k + 1) = 4 * k + 1 + 1 + 1 + 1 from by omega]
  rw [List.take_succ_eq_append_getElem (by omega), List.take_succ_eq_append_getElem (by omega), List.take_succ_eq_append_getElem (by omega), List.take_succ_eq_append_getElem (by omega)]
  simp [hat]

set_option maxRecDepth 100000 in
set_option maxHeartbeats 1000000 in
theorem rtold_any (g : Nat → Int) (hh : ∀ i, W32 (g i)) (w : World) : Calls Tryd.prog 119 #[.agg (arr 8 g).toArray] w fun e w' => e = .returned (.string ⟨List.toArray (toldP g)⟩) ∧ Below w.heap.size w w' := by
  have HH := Lib.hid hh
  clear hh
  have hB := Blk.new w (arr 8 g).toArray 127
  go_enter Tryd.func119, Tryd.ntmps119
  go_wp2_with fail
  go_loopw [3, 4] (fun s3 s4 wr => ∃ k : Nat, k ≤ 8 ∧ s4 = .int .i64 k ∧ s3 = .string ⟨List.toArray ((toldP g).take (4 * k))⟩ ∧ Blk wr w.heap.size (arr 8 g).toArray ∧ Below w.heap.size w wr) (fun _ s4 _ => 8 - (intOf s4).toNat)
  case atStart => exact ⟨0, by omega, rfl, by simp, hB, by (repeat (first | exact Below.refl _ _ | assumption | apply Below.drew | apply below_drewN | apply Below.allocS | (refine Below.setCell ?_ (by simp <;> omega) _) | (refine Below.alloc ?_ (by simp <;> omega) _) | (refine Below.trans ?_ (Below.mono (by assumption) (by simp <;> omega)))))⟩
  case round =>
    clear hB
    obtain ⟨k, hk, rfl, rfl, B, hb⟩ := hrel
    rename_i wr
    by_cases hlt : k < 8
    · have hlt' : (k : Int) < 8 := by omega
      have HX := HH.out k
      have hts := toldP_take g k hlt
      rw [byteAt_0, byteAt_1, byteAt_2, byteAt_3] at hts
      rw [show g k / 16777216 % 256 = g k / 16777216 from by have := HX.1; have := HX.2; omega] at hts
      have HT := Lib.hid hts
      clear hts
      have hln : ((toldP g).take (4 * k)).length ≤ 32 := by rw [List.length_take, toldP_len]; omega
      have c0 := B.cell k
      rw [arr_at 8 _ _ hlt] at c0
      have bl := B.lt
      generalize g k = x at *
      generalize (toldP g).take (4 * k) = t at *
      obtain ⟨x0, x1⟩ := HX
      have hcat : ¬ 9223372036854775807 < t.length + 4 := by omega
      have q0 : IntKind.u8.wrap (x / 16777216) = x / 16777216 := by rw [IntKind.wrap_u8']; omega
      have q1 : IntKind.u8.wrap (x / 65536) = x / 65536 % 256 := by rw [IntKind.wrap_u8']
      have q2 : IntKind.u8.wrap (x / 256) = x / 256 % 256 := by rw [IntKind.wrap_u8']
      have q3 : IntKind.u8.wrap x = x % 256 := by rw [IntKind.wrap_u8']
      go_wp2_with fail
      go_region
      all_goals go_wp2_with fail
      all_goals exact ⟨⟨k + 1, by omega, by go_num, by rw [HT.out], (B.alloc _).drew, (Below.allocS hb _).drew⟩, by simp [intOf]; omega⟩
    · have hke : k = 8 := by omega
      subst hke
      go_wp2_with fail
      go_ret
      exact ⟨by rw [List.take_of_length_le (by rw [toldP_len]; omega)]; rfl, hb⟩

end Go.Proofs.YtmldonbmjgelnaaDoor
