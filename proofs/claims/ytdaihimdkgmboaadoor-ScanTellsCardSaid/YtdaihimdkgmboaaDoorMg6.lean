/- Sum, Dig, NodeD, TrieP. -/
import Derived.Test.YtdaihimdkgmboaaDoorMg1
import Derived.Test.YtdaihimdkgmboaaDoorMg3
import Derived.Test.YtdaihimdkgmboaaDoorMg4
import Derived.Test.YtdaihimdkgmboaaDoorMg5
set_option linter.unnecessarySimpa false

/- Walks of layer 3: a text's sum. -/
set_option linter.unusedSimpArgs false
set_option linter.unusedVariables false
namespace Go.Proofs.YtdaihimdkgmboaaDoor
open Go.RowKit

def be8 (x : Nat) : List UInt8 := (List.range 8).map fun i => UInt8.ofNat (x / 2 ^ (56 - 8 * i) % 256)
/-- How many zeros fill up. -/
def zer (n : Nat) : Nat := (119 - n % 64) % 64
def padEnd (n : Nat) : List UInt8 := 128 :: List.replicate (zer n) 0 ++ be8 (8 * n)
def padP (s : List UInt8) : List UInt8 := s ++ padEnd s.length
def sumP (s : List UInt8) : List UInt8 := toldP (blkN firstW (padP s) ((padP s).length / 64))
theorem sumP_len (s : List UInt8) : (sumP s).length = 32 := toldP_len _
theorem be8_len (x : Nat) : (be8 x).length = 8 := by simp [be8]
theorem be_val (n k : Nat) : ((n : Int) * 8 / 2 ^ k % 256) = ((UInt8.ofNat (8 * n / 2 ^ k % 256)).toNat : Int) := by
  have h1 : 8 * n / 2 ^ k % 256 < 256 := Nat.mod_lt _ (by omega)
  have h2 : (UInt8.ofNat (8 * n / 2 ^ k % 256)).toNat = 8 * n / 2 ^ k % 256 := by simp
  rw [h2, Int.natCast_emod, Int.natCast_ediv, Int.natCast_mul, Int.natCast_pow, Int.mul_comm (n : Int) 8]
  rfl
theorem padEnd_len (n : Nat) : (padEnd n).length = 9 + zer n := by simp [padEnd, be8_len]; omega
theorem sch_lo (b : Nat → Int) (i : Nat) (h : i < 16) : sch b i = word4 b i := by rw [sch, dif_pos h]
theorem sch_hi (b : Nat → Int) (i : Nat) (h : ¬ i < 16) : sch b i = (sch b (i - 16) + sg0 (sch b (i - 15)) + sch b (i - 7) + sg1 (sch b (i - 2))) % 4294967296 := by rw [sch, dif_neg h]
theorem sch_of {b b' : Nat → Int} (h : ∀ j, j < 64 → b j = b' j) (i : Nat) : sch b i = sch b' i := by
  induction i using Nat.strongRecOn with
  | _ i ih =>
    by_cases hi : i < 16
    · rw [sch_lo b i hi, sch_lo b' i hi, word4, word4, h _ (by omega), h _ (by omega), h _ (by omega), h _ (by omega)]
    · rw [sch_hi b i hi, sch_hi b' i hi, ih (i - 16) (by omega), ih (i - 15) (by omega), ih (i - 7) (by omega), ih (i - 2) (by omega)]
theorem rds_of (g : Nat → Int) {b b' : Nat → Int} (h : ∀ j, j < 64 → b j = b' j) : ∀ n, rds g b n = rds g b' n
  | 0 => rfl
  | n + 1 => by rw [rds, rds, rds_of g h n, sch_of h]
theorem blk_of {g : Nat → Int} {b b' : Nat → Int} (h : ∀ j, j < 64 → b j = b' j) : blk g b = blk g b' := by
  funext i
  unfold blk
  rw [rds_of g h]
theorem blkN_app (g : Nat → Int) (a b : List UInt8) : ∀ n, 64 * n ≤ a.length → blkN g (a ++ b) n = blkN g a n
  | 0, _ => rfl
  | n + 1, h => by
    rw [blkN, blkN, blkN_app g a b n (by omega)]
    funext i
    have : ∀ j, j < 64 → blkB (a ++ b) n j = blkB a n j := by
      intro j hj
      unfold blkB
      rw [List.drop_append_of_le_length (by omega)]
      rw [List.getD_eq_getElem?_getD, List.getD_eq_getElem?_getD, List.getElem?_append_left (by simp; omega)]
    exact congrFun (blk_of this) i
theorem blkN_add (g : Nat → Int) (l : List UInt8) (m : Nat) : ∀ n, blkN g l (m + n) = blkN (blkN g l m) (l.drop (64 * m)) n
  | 0 => rfl
  | n + 1 => by
    rw [← Nat.add_assoc, blkN, blkN, blkN_add g l m n]
    have : blkB l (m + n) = blkB (l.drop (64 * m)) n := by
      funext i
      unfold blkB
      rw [List.drop_drop]
      congr 4; omega
    rw [this]
theorem sum_two (s : List UInt8) : sumP s = toldP (blkN (blkN firstW s (s.length / 64)) (s.drop (64 * (s.length / 64)) ++ padEnd s.length) ((s.drop (64 * (s.length / 64)) ++ padEnd s.length).length / 64)) := by
  unfold sumP
  have hl : (padP s).length = s.length + (9 + zer s.length) := by simp [padP, padEnd_len]
  have hl2 : (s.drop (64 * (s.length / 64)) ++ padEnd s.length).length = s.length - 64 * (s.length / 64) + (9 + zer s.length) := by simp [padEnd_len]
  have hd : (padP s).length / 64 = s.length / 64 + (s.drop (64 * (s.length / 64)) ++ padEnd s.length).length / 64 := by rw [hl, hl2]; omega
  rw [hd, blkN_add]
  congr 2
  · exact blkN_app _ _ _ _ (by omega)
  · unfold padP
    rw [List.drop_append_of_le_length (by omega)]

/-- The cells of a hash. -/
def hcells (f : Nat → Int) (v : Value) (n : Int) : List Value := arr 8 f ++ [v, .int .i64 n]
theorem hcells_lit (f : Nat → Int) (v : Value) (n : Int) : (hcells f v n).toArray = #[.int .u32 (f 0), .int .u32 (f 1), .int .u32 (f 2), .int .u32 (f 3), .int .u32 (f 4), .int .u32 (f 5), .int .u32 (f 6), .int .u32 (f 7), v, .int .i64 n] := rfl

set_option maxRecDepth 100000 in
theorem new_any (w : World) : Calls Tryd.prog 110 #[] w fun e w' => ∃ p, w.heap.size ≤ p ∧ e = .returned (.pointer (some ⟨p, 0, none⟩)) ∧ Blk w' p (hcells firstW (.slice none 0 0) 0).toArray ∧ Below w.heap.size w w' := by
  go_enter Tryd.func110, Tryd.ntmps110
  go_wp2_with fail
  refine (first_any _).mono ?_
  rw [first_lit]
  rintro e w1 ⟨rfl, hb⟩
  go_wp2_with fail
  go_ret
  exact ⟨w1.heap.size, hb.size, rfl, Blk.new' rfl, Below.allocS hb _⟩

theorem app8 (f : Nat → Int) : #[Value.int .u32 (f 0), .int .u32 (f 1), .int .u32 (f 2), .int .u32 (f 3), .int .u32 (f 4), .int .u32 (f 5), .int .u32 (f 6), .int .u32 (f 7)] = (arr 8 f).toArray := rfl
/-- Likewise, the words written out. -/
theorem blocks_lit (g : Nat → Int) (hg : ∀ i, W32 (g i)) (v : Value) (l : List UInt8) (hl : l.length ≤ 1099511627776) (ff : Nat → Int) (tl : List UInt8) (h1 : blkN g l (l.length / 64) = ff) (h2 : l.drop (64 * (l.length / 64)) = tl) (w : World) (hv : BS w v l) (hk0 : KT w) :
    Calls Tryd.prog 129 #[.agg (arr 8 g).toArray, v] w fun e w' => ∃ a c, e = .returned (.tuple #[.agg #[.int .u32 (ff 0), .int .u32 (ff 1), .int .u32 (ff 2), .int .u32 (ff 3), .int .u32 (ff 4), .int .u32 (ff 5), .int .u32 (ff 6), .int .u32 (ff 7)], .slice a tl.length c]) ∧
      BRow w' w.heap.size (.slice a tl.length c) tl ∧ Below w.heap.size w w' := by
  subst h1 h2
  refine (blocks_any g hg v l hl w hv hk0).mono ?_
  rintro e w3 ⟨v3, rfl, hB3, hb3⟩
  obtain ⟨a, c, hv3⟩ := hB3.bs.len
  subst hv3
  exact ⟨a, c, rfl, hB3, hb3⟩
def WritePost (W : World) (p : Nat) (s : List UInt8) (e : Ending) (w' : World) : Prop :=
  ∃ v', e = .returned (.tuple #[]) ∧ Blk w' p (hcells (blkN firstW s (s.length / 64)) v' s.length).toArray ∧ BRow w' W.heap.size v' (s.drop (64 * (s.length / 64))) ∧ Mod [p] W w'

set_option maxRecDepth 100000 in
set_option maxHeartbeats 1000000 in
theorem write_any (p : Nat) (s : List UInt8) (hs : s.length ≤ 1099511627776) (w : World) (hk : KT w) (hp : p ≠ 1) (P : Blk w p (hcells firstW (.slice none 0 0) 0).toArray) :
    Calls Tryd.prog 111 #[.pointer (some ⟨p, 0, none⟩), .string ⟨List.toArray (s)⟩] w (WritePost w p s) := by
  have P1 := P.set 9 (.int .i64 (s.length : Int))
  rw [hcells_lit] at P P1
  obtain ⟨pc, pf, pl⟩ := id P
  have hw1 : Mod [p] w (w.setCell ⟨p, 9, none⟩ (.int .i64 (s.length : Int))) := (Mod.refl _ _).setCell (.inl (by simp)) _
  have HP : Hid (WritePost w p s = fun e w' => ∃ v', e = .returned (.tuple #[]) ∧ Blk w' p (hcells (blkN firstW s (s.length / 64)) v' s.length).toArray ∧ BRow w' w.heap.size v' (s.drop (64 * (s.length / 64))) ∧ Mod [p] w w') := Lib.hid rfl
  have HBL := fun (ff : Nat → Int) (tl : List UInt8) h1 h2 v => blocks_lit firstW firstW_bd v s hs ff tl h1 h2
  replace HBL := HBL _ _ rfl rfl
  generalize blkN firstW s (s.length / 64) = ff at *
  generalize s.drop (64 * (s.length / 64)) = tl at *
  have HBH := Lib.hid HBL
  clear HBL
  go_enter Tryd.func111, Tryd.ntmps111
  go_wp2_with fail
  have hk1 : KT (w.setCell ⟨p, 9, none⟩ (.int .i64 (s.length : Int))) := ⟨fun i hi => by rw [World.cell?_setCell_other w _ _ _ (fun e => hp (by injection e))]; exact hk.cell i hi, by simpa [World.setCell] using hk.lt⟩
  have hsz : (w.setCell ⟨p, 9, none⟩ (.int .i64 (s.length : Int))).heap.size = w.heap.size := by simp [World.setCell]
  have P1' : Blk (w.setCell ⟨p, 9, none⟩ (.int .i64 (s.length : Int))) p #[.int .u32 (firstW 0), .int .u32 (firstW 1), .int .u32 (firstW 2), .int .u32 (firstW 3), .int .u32 (firstW 4), .int .u32 (firstW 5), .int .u32 (firstW 6), .int .u32 (firstW 7), .slice none 0 0, .int .i64 (s.length : Int)] := P1
  clear P1 P pc pf
  generalize w.setCell ⟨p, 9, none⟩ (.int .i64 (s.length : Int)) = w1 at *
  have HSZ := Lib.hid hsz
  clear hsz
  obtain ⟨pc, pf, pl1⟩ := id P1'
  go_region_law (first
    | (refine step_appBT rfl (.tmp 23) (.tmp 24) rfl w1.heap.size (.slice none 0 0) [] rfl (BRow.nil _ _) s rfl (by simp; omega) (by simp) ?_; rintro v' w2 hB2 hg2; have hb2 := grown_nil hg2; have P2 := P1'.drew.keep hb2; obtain ⟨pc2, pf2, pl2⟩ := id P2)
    | (go_simp; go_at_call 129; refine (HBH.out _ _ ?hbs ?hkk).mono ?_; (case hbs => exact hB2.bs); (case hkk => exact KT.keep (W := w1.drew) ⟨hk1.cell, hk1.lt⟩ hb2); rintro e w3 ⟨a3, c3, rfl, hB3, hb3⟩; have P3 := P2.keep hb3; obtain ⟨pc3, pf3, pl3⟩ := id P3))
  all_goals go_wp2_with fail
  all_goals
    refine bodyPost_end (results_none rfl _ _ _) rfl ?_
    rw [HP.out]
    refine ⟨.slice a3 tl.length c3, rfl, ?_, ?_, ?_⟩
    · have Q := (((((((((P3.set 0 (.int .u32 (ff 0))).set 1 (.int .u32 (ff 1))).set 2 (.int .u32 (ff 2))).set 3 (.int .u32 (ff 3))).set 4 (.int .u32 (ff 4))).set 5 (.int .u32 (ff 5))).set 6 (.int .u32 (ff 6))).set 7 (.int .u32 (ff 7))).set 8 (.slice a3 tl.length c3))
      simp only [List.setIfInBounds_toArray, List.set_cons_zero, List.set_cons_succ] at Q
      rw [hcells_lit]
      exact Q
    · refine BRow.mono (hB3.kept (fun k hk => ?_)) (Nat.le_trans (show w.heap.size ≤ w1.drew.heap.size from by rw [← HSZ.out]; exact Nat.le_refl _) hb2.size)
      have hne : k ≠ p := by have := (ownBlock_lt hB3 k hk).1; omega
      rw [Below.heap_setCell _ _ _ _ hne, Below.heap_setCell _ _ _ _ hne, Below.heap_setCell _ _ _ _ hne, Below.heap_setCell _ _ _ _ hne, Below.heap_setCell _ _ _ _ hne, Below.heap_setCell _ _ _ _ hne, Below.heap_setCell _ _ _ _ hne, Below.heap_setCell _ _ _ _ hne, Below.heap_setCell _ _ _ _ hne]
    · exact (((((((((((hw1.drew.trans (Mod.of_below hb2)).trans (Mod.of_below hb3)).setCell (.inl (by simp)) _).setCell (.inl (by simp)) _).setCell (.inl (by simp)) _).setCell (.inl (by simp)) _).setCell (.inl (by simp)) _).setCell (.inl (by simp)) _).setCell (.inl (by simp)) _).setCell (.inl (by simp)) _).setCell (.inl (by simp)) _)

set_option maxRecDepth 100000 in
set_option maxHeartbeats 1000000 in
theorem hsum_any (p : Nat) (f : Nat → Int) (hf : ∀ i, W32 (f i)) (v : Value) (t : List UInt8) (n : Nat) (hn : n ≤ 1099511627776) (ht : t.length < 64) (hmod : t.length % 64 = n % 64) (w : World) (hk : KT w) (P : Blk w p (hcells f v n).toArray) (hv : BS w v t) :
    Calls Tryd.prog 112 #[.pointer (some ⟨p, 0, none⟩)] w fun e w' => e = .returned (.string ⟨List.toArray (toldP (blkN f (t ++ padEnd n) ((t ++ padEnd n).length / 64)))⟩) ∧ Below w.heap.size w w' := by
  generalize hR : toldP (blkN f (t ++ padEnd n) ((t ++ padEnd n).length / 64)) = R
  have HR := Lib.hid hR
  clear hR
  obtain ⟨a, c, hvs⟩ := hv.len
  subst hvs
  rw [hcells_lit] at P
  obtain ⟨pc, pf, pl⟩ := id P
  have HV := Lib.hid hv
  clear hv
  go_enter Tryd.func112, Tryd.ntmps112
  go_wp2_with (first
    | (refine wpList_appBS rfl (.const (.slice none 0 0)) (.tmp 11) rfl w.heap.size (.slice none 0 0) [] rfl (BRow.nil _ _) _ t rfl HV.out (by simp; omega) (by simp) ?_; rintro v1 w1 hB1 hg1; have hb1 := grown_nil hg1; clear hg1)
    | (refine wpList_appB rfl (.tmp 13) (.tmp 14) rfl w.heap.size _ ([] ++ t) rfl (hB1.alloc _) w1.heap.size 0 1 1 [128] rfl rfl (bsrc1 _ _ _ _ rfl) (by simp; omega) (by have := hb1.size; simp; omega) ?_; rintro v2 w2 hB2 hb2))
  have hb3 : Below w.heap.size w w2 := (Below.allocS hb1 _).trans hb2
  have hB3 : BRow w2 w.heap.size v2 (t ++ 128 :: List.replicate 0 0) := by simpa using hB2
  clear hB2 hB1 hb2 hb1
  go_loopw [3] (fun s3 wr => ∃ j : Nat, j ≤ zer n ∧ BRow wr w.heap.size s3 (t ++ 128 :: List.replicate j 0) ∧ Below w.heap.size w wr) (fun s3 _ => t.length + 1 + zer n - lenS s3)
  case atStart => exact ⟨0, by omega, hB3, hb3⟩
  case round =>
    clear hB3 hb3
    obtain ⟨j, hj, hB, hb⟩ := hrel
    rename_i wr
    obtain ⟨a2, c2, hvs⟩ := hB.bs.len
    subst hvs
    have hll : (t ++ 128 :: List.replicate j (0 : UInt8)).length = t.length + 1 + j := by simp; omega
    have hzd : zer n = (119 - n % 64) % 64 := rfl
    by_cases hlt : j < zer n
    · have hrem : (((t ++ 128 :: List.replicate j (0 : UInt8)).length : Int) % 64 == 56) = false := by rw [hll]; simp; omega
      have hl2 : (t ++ 128 :: List.replicate j (0 : UInt8)).length ≤ 1000 := by omega
      have HN : Hid (t ++ 128 :: List.replicate (j + 1) 0 = (t ++ 128 :: List.replicate j 0) ++ [0]) := Lib.hid (by simp [List.replicate_succ'])
      have HLL := Lib.hid hll
      clear hll hzd
      generalize t ++ 128 :: List.replicate j (0 : UInt8) = m at *
      go_wp2_with (refine wpList_appB rfl (.tmp 20) (.tmp 21) rfl w.heap.size _ m rfl (hB.alloc _) wr.heap.size 0 1 1 [0] rfl rfl (bsrc1 _ _ _ _ rfl) (by omega) (by have := hb.size; simp; omega) ?_; rintro v3 w3 hB3 hb3)
      obtain ⟨a3, c3, hvs3⟩ := hB3.bs.len
      have hls : lenS v3 = m.length + 1 := by rw [hvs3]; simp [lenS]
      exact ⟨⟨j + 1, by omega, by rw [HN.out]; exact hB3, (Below.allocS hb _).trans hb3⟩, by have := HLL.out; rw [hls]; simp [lenS]; omega⟩
    · have hje : j = zer n := by omega
      subst hje
      have hrem : (((t ++ 128 :: List.replicate (zer n) (0 : UInt8)).length : Int) % 64 == 56) = true := by rw [hll]; simp; omega
      have hl2 : (t ++ 128 :: List.replicate (zer n) (0 : UInt8)).length ≤ 1000 := by omega
      have HM : Hid (t ++ 128 :: List.replicate (zer n) 0 ++ be8 (8 * n) = t ++ padEnd n) := Lib.hid (by simp [padEnd])
      clear hll hzd hlt
      generalize t ++ 128 :: List.replicate (zer n) (0 : UInt8) = m at *
      have hremN : ((m.length : Int) % 64 != 56) = false := by simp [bne, hrem]
      have P2 := P.keep hb
      obtain ⟨pc2, pf2, pl2⟩ := id P2
      clear pc pf
      go_wp2_with fail
      go_loopw [3, 29] (fun s3 s29 wr => ∃ i : Nat, i ≤ 8 ∧ s29 = .int .i64 i ∧ BRow wr w.heap.size s3 (m ++ (be8 (8 * n)).take i) ∧ Below w.heap.size w wr) (fun _ s29 _ => 8 - (intOf s29).toNat)
      case atStart => exact ⟨0, by omega, rfl, by simpa using hB, hb⟩
      case round =>
        clear hB hb P2 pc2 pf2 pl2
        obtain ⟨i, hi, rfl, hB, hb⟩ := hrel
        rename_i wq
        obtain ⟨a2, c2, hvs⟩ := hB.bs.len
        subst hvs
        have hll : (m ++ (be8 (8 * n)).take i).length ≤ 1008 := by simp [be8_len]; omega
        by_cases hlt : i < 8
        · have hlt' : (i : Int) < 8 := by omega
          have hat : (be8 (8 * n)).take (i + 1) = (be8 (8 * n)).take i ++ [UInt8.ofNat (8 * n / 2 ^ (56 - 8 * i) % 256)] := by
            rw [List.take_succ_eq_append_getElem (by rw [be8_len]; exact hlt)]
            simp [be8]
          have HN : Hid (m ++ (be8 (8 * n)).take (i + 1) = (m ++ (be8 (8 * n)).take i) ++ [UInt8.ofNat (8 * n / 2 ^ (56 - 8 * i) % 256)]) := Lib.hid (by rw [hat, List.append_assoc])
          clear hat
          generalize m ++ (be8 (8 * n)).take i = mm at *
          have hsh : (56 - 8 * (i : Int)).toNat = 56 - 8 * i := by omega
          have q0 : (0 : Int) ≤ 56 - 8 * (i : Int) := by omega
          have hval := Lib.hid (be_val n (56 - 8 * i))
          go_wp2_with (refine wpList_appB rfl (.tmp 32) (.tmp 39) rfl w.heap.size _ mm rfl (hB.alloc _) _ 0 1 1 [UInt8.ofNat (8 * n / 2 ^ (56 - 8 * i) % 256)] rfl rfl (bsrc1 _ _ _ _ hval.out) (by omega) (by have := hb.size; simp; omega) ?_; rintro v3 w3 hB3 hb3)
          exact ⟨⟨i + 1, by omega, by go_num, by rw [HN.out]; exact hB3, (Below.allocS hb _).trans hb3⟩, by simp [intOf]; omega⟩
        · have hie : i = 8 := by omega
          subst hie
          have HE : Hid (m ++ (be8 (8 * n)).take 8 = t ++ padEnd n) := Lib.hid (by rw [List.take_of_length_le (by rw [be8_len]; omega)]; exact HM.out)
          rw [HE.out] at hB hll ⊢
          have HF := Lib.hid (blkN_bd f (t ++ padEnd n) hf ((t ++ padEnd n).length / 64))
          have HBL := Lib.hid (fun v => blocks_lit f hf v (t ++ padEnd n) (by omega) _ _ rfl rfl)
          have P3 := P.keep hb
          have hk3 := hk.keep hb
          obtain ⟨pc3, pf3, pl3⟩ := id P3
          generalize t ++ padEnd n = m3 at *
          generalize blkN f m3 (m3.length / 64) = ff at *
          go_wp2_with fail
          refine (HBL.out _ _ hB.bs hk3).mono ?_
          rintro e w4 ⟨a4, c4, rfl, hB4, hb4⟩
          go_wp2_with fail
          rw [app8]
          refine (told_any ff HF.out _).mono ?_
          rintro e w5 ⟨rfl, hb5⟩
          go_wp2_with fail
          go_ret
          exact ⟨by rw [← HR.out]; rfl, ((Below.allocS (hb.trans (hb4.mono hb.size)) _).trans (hb5.mono (by have := hb.size; have := hb4.size; simp; omega)))⟩

set_option maxHeartbeats 400000 in
theorem shasum_any (s : List UInt8) (hs : s.length ≤ 1099511627776) (w : World) (hk : KT w) :
    Calls Tryd.prog 85 #[.string ⟨List.toArray (s)⟩] w fun e w' => e = .returned (.string ⟨List.toArray (sumP s)⟩) ∧ Below w.heap.size w w' := by
  go_enter Tryd.func85, Tryd.ntmps85
  go_wp2_with fail
  refine (new_any _).mono ?_
  rintro e w1 ⟨p, hp, rfl, P, hb1⟩
  have hk1 := hk.keep hb1
  have hpk : p ≠ 1 := by have := hk.lt; omega
  go_wp2_with fail
  refine (write_any p s hs _ hk1 hpk P).mono ?_
  rintro e w2 ⟨v2, rfl, P2, hB2, m2⟩
  have hk2 : KT w2 := ⟨fun i hi => (World.cell?_of_block (w := w1) (m2.block _ hk1.lt (by simp; exact fun h => hpk h.symm))).trans (hk1.cell i hi), Nat.lt_of_lt_of_le hk1.lt m2.size⟩
  have hb2 : Below w.heap.size w w2 := Below.mod hb1 m2 hb1.size (by simp; exact hp)
  go_wp2_with fail
  have htl : (s.drop (64 * (s.length / 64))).length = s.length - 64 * (s.length / 64) := by simp
  refine (hsum_any p _ (blkN_bd firstW s firstW_bd _) v2 _ s.length hs (by omega) (by omega) _ hk2 P2 hB2.bs).mono ?_
  rw [← sum_two]
  rintro e w3 ⟨rfl, hb3⟩
  go_wp2_with fail
  go_ret
  exact ⟨rfl, hb2.trans (hb3.mono hb2.size)⟩

end Go.Proofs.YtdaihimdkgmboaaDoor

/- Walks of layer 4: sums with tags. -/
set_option linter.unusedSimpArgs false
set_option linter.unusedVariables false
namespace Go.Proofs.YtdaihimdkgmboaaDoor
open Go.RowKit

/-- The sum of a text with a tag. -/
def tagP (tag : Nat) (s : List UInt8) : List UInt8 := sumP (UInt8.ofNat tag :: s)
theorem tagP_len (tag : Nat) (s : List UInt8) : (tagP tag s).length = 32 := sumP_len _

theorem digsum_ok (tag : Nat) (h1 : 1 ≤ tag) (h2 : tag ≤ 255) (s : List UInt8) (hs : s.length ≤ 1099511627000) (w : World) (hk : KT w) :
    Calls Tryd.prog 52 #[.int .i64 ((tag : Int)), .string ⟨List.toArray (s)⟩] w fun e w' => e = .returned (.tuple #[.string ⟨List.toArray (tagP tag s)⟩, .int .i64 (0)]) ∧ Below w.heap.size w w' := by
  have hd1 : decide ((tag : Int) < 1) = false := by simp; omega
  have hd2 : decide ((255 : Int) < (tag : Int)) = false := by simp; omega
  have q : IntKind.u8.wrap (tag : Int) = (tag : Int) := by rw [IntKind.wrap_u8']; omega
  have hcat : ¬ 9223372036854775807 < 1 + s.length := by omega
  have hcat2 : ¬ 9223372036854775807 < s.length + 1 := by omega
  have hb0 : Below w.heap.size w (w.alloc (.cells #[.int .u8 (tag : Int)] 5)) := Below.allocS (Below.refl _ _) _
  go_enter Tryd.func52, Tryd.ntmps52
  go_wp2_with fail
  refine (shasum_any (UInt8.ofNat tag :: s) (by simp; omega) _ (hk.keep hb0)).mono ?_
  rintro e w2 ⟨rfl, hb⟩
  go_wp2_with fail
  go_ret2
  exact ⟨rfl, hb0.trans (hb.mono (by simp))⟩

end Go.Proofs.YtdaihimdkgmboaaDoor

/- A node's sum. -/
set_option linter.unusedSimpArgs false
set_option linter.unusedVariables false
namespace Go.Proofs.YtdaihimdkgmboaaDoor
open Go.RowKit Pl

theorem flat_take (kid : Nat → Bs) (ha : all32 (kidsF kid) = true) (k : Nat) (hk : k ≤ 16) : (kidsTo kid k).flatten.length ≤ 512 := by
  have h : ∃ m, kidsTo kid k ++ m = kidsF kid := by
    have : ∀ j, ∃ m, kidsTo kid k ++ m = kidsTo kid (k + j) := by
      intro j
      induction j with
      | zero => exact ⟨[], by simp⟩
      | succ j ih =>
        obtain ⟨m, hm⟩ := ih
        exact ⟨m ++ (if kid (k + j) = [] then [] else [kid (k + j)]), by rw [← List.append_assoc, hm, ← Nat.add_assoc, kidsTo_succ]⟩
    obtain ⟨m, hm⟩ := this (16 - k)
    exact ⟨m, by rw [hm, show k + (16 - k) = 16 from by omega]; rfl⟩
  obtain ⟨m, hm⟩ := h
  have h2 := flat_len _ ha
  have h3 : (kidsF kid).length ≤ 16 := kidsTo_len kid 16
  have h4 : (kidsF kid).flatten.length = (kidsTo kid k).flatten.length + m.flatten.length := by
    rw [← hm, List.flatten_append, List.length_append]
  omega
theorem enc_small (kind : Int) (path val : Bs) (kid : Nat → Bs) (h : chk kind path val kid = true) : (enc kind path val kid).length ≤ 1000 := by
  have hf : fineR kind path val kid = true := by rw [fine_chk]; exact h
  unfold fineR at hf
  split at hf
  · cases hf
  · rename_i ha
    have ha' : all32 (kidsF kid) = true := by simpa using ha
    split at hf
    · cases hf
    · rename_i hb
      simp only [not_or] at hb
      obtain ⟨_, hp, hv⟩ := hb
      have h1 := text_len val
      have h2 := text_len (pack path true).1
      have h3 := pack_len path true
      have h4 := text_len (pack path false).1
      have h5 := pack_len path false
      have h6 := flat_take kid ha' 16 (by omega)
      have h6' : (kidsF kid).flatten.length ≤ 512 := h6
      unfold enc
      by_cases k3 : kind = 3
      · rw [if_pos k3]; simp only [List.length_append, List.length_cons, List.length_nil]; omega
      · rw [if_neg k3]
        by_cases k1 : kind = 1
        · rw [if_pos k1]; simp only [List.length_append, List.length_cons]; omega
        · rw [if_neg k1]
          by_cases k2 : kind = 2
          · subst k2
            have h0 : (kid 0).length = 32 := by simp [chk, all32] at h; omega
            simp only [List.length_append, List.length_cons]; omega
          · rw [if_neg k1, if_neg k2, if_neg k3] at hf; cases hf
/-- A node's sum. -/
def dgP (kind : Int) (path val : Bs) (kid : Nat → Bs) : Bs := if chk kind path val kid then tagP 1 (enc kind path val kid) else []

set_option maxRecDepth 100000 in
set_option maxHeartbeats 1000000 in
theorem ndigest_any (kind : Int) (path val : Bs) (kid : Nat → Bs) (hp : path.length ≤ 1000) (w : World) (hk : KT w) :
    Calls Tryd.prog 133 #[.agg (nd kind path val kid).toArray] w fun e w' => e = .returned (.string ⟨List.toArray (dgP kind path val kid)⟩) ∧ Below w.heap.size w w' := by
  generalize hd : dgP kind path val kid = d
  have HD := Lib.hid hd
  clear hd
  have hB := Blk.new w (nd kind path val kid).toArray 76
  have hb0 : Below w.heap.size w (w.alloc (.cells (nd kind path val kid).toArray 76)) := Below.allocS (Below.refl _ _) _
  go_enter Tryd.func133, Tryd.ntmps133
  go_wp2_with (refine wpList_node rfl (.tmp 1) rfl rfl hB ?_)
  refine (encode_any kind path val kid (by omega) _).mono ?_
  rintro e w1 ⟨rfl, hb1⟩
  have hb2 := hb0.trans (hb1.mono (by simp))
  cases hc : chk kind path val kid
  · have HZ : Hid (d = []) := Lib.hid (by rw [← HD.out]; simp [dgP, hc])
    rw [show encR kind path val kid = ([], 80) from by simp [encR, hc]]
    go_wp2_with fail
    go_ret
    exact ⟨by rw [HZ.out]; rfl, hb2⟩
  · have hl := enc_small kind path val kid hc
    have HZ : Hid (d = tagP 1 (enc kind path val kid)) := Lib.hid (by rw [← HD.out]; simp [dgP, hc])
    rw [show encR kind path val kid = (enc kind path val kid, 0) from by simp [encR, hc]]
    generalize enc kind path val kid = en at *
    go_wp2_with fail
    refine (digsum_ok 1 (by omega) (by omega) en (by omega) _ (hk.keep hb2)).mono ?_
    rintro e w2 ⟨rfl, hb3⟩
    go_wp2_with fail
    go_ret
    exact ⟨by rw [HZ.out]; rfl, hb2.trans (hb3.mono hb2.size)⟩

end Go.Proofs.YtdaihimdkgmboaaDoor

/- Plain: tries of half bytes; what is put, what is there. -/
set_option linter.unusedSimpArgs false
set_option linter.unusedVariables false
namespace Go.Proofs.YtdaihimdkgmboaaDoor
namespace Pl

/-- How far both are the same. -/
def common : Bs → Bs → Nat
  | a :: r, b :: s => if a = b then common r s + 1 else 0
  | _, _ => 0
theorem common_le : ∀ (a b : Bs), common a b ≤ a.length ∧ common a b ≤ b.length
  | [], _ => by simp [common]
  | _ :: _, [] => by simp [common]
  | a :: r, b :: s => by
    have := common_le r s
    unfold common
    split <;> simp <;> omega
theorem common_take : ∀ (a b : Bs), a.take (common a b) = b.take (common a b)
  | [], b => by simp [common]
  | a :: r, [] => by simp [common]
  | a :: r, b :: s => by
    unfold common
    split
    · rename_i h; subst h; simp [common_take r s]
    · simp
theorem common_next : ∀ (a b : Bs) (c d : UInt8) (x y : Bs), a.drop (common a b) = c :: x → b.drop (common a b) = d :: y → c ≠ d
  | [], b, c, d, x, y, h, _ => by simp at h
  | a :: r, [], c, d, x, y, _, h => by simp at h
  | a :: r, b :: s, c, d, x, y, h1, h2 => by
    unfold common at h1 h2
    split at h1
    · rename_i h
      rw [if_pos h] at h2
      exact common_next r s c d x y (by simpa using h1) (by simpa using h2)
    · rename_i h
      rw [if_neg h] at h2
      simp at h1 h2
      rw [← h1.1, ← h2.1]; exact h

/-- A trie. -/
inductive Tr where
  | nil : Tr
  | leaf (p v : Bs) : Tr
  | ext (p : Bs) (t : Tr) : Tr
  | br (v : Bs) (kids : Nat → Tr) : Tr
/-- What is at a path. -/
def look : Tr → Bs → Bs
  | .nil, _ => []
  | .leaf p v, q => if q = p then v else []
  | .ext p t, q => if q.take p.length = p then look t (q.drop p.length) else []
  | .br v kids, q => match q with
    | [] => v
    | a :: r => look (kids a.toNat) r
def joinT (p : Bs) : Tr → Tr
  | .leaf q v => if p = [] then .leaf q v else .leaf (p ++ q) v
  | .ext q t => if p = [] then .ext q t else .ext (p ++ q) t
  | t => if p = [] then t else .ext p t
def noT : Nat → Tr := fun _ => .nil
def updT (f : Nat → Tr) (i : Nat) (x : Tr) : Nat → Tr := fun j => if j = i then x else f j
def oldK (f : Bs → Tr) : Bs → Nat → Tr
  | [] => noT
  | c :: r => updT noT c.toNat (f r)
def partT (own : Bs) (kids : Nat → Tr) (q v : Bs) : Tr := match q with
  | [] => .br v kids
  | a :: r => .br own (updT kids a.toNat (.leaf r v))
/-- What a leaf, or an extension, has behind c half bytes, and an item. -/
def ownT (p w : Bs) (c : Nat) : Bs := if p.drop c = [] then w else []
def putT : Tr → Bs → Bs → Tr
  | .nil, q, v => .leaf q v
  | .leaf p w, q, v =>
    if common p q = p.length ∧ common p q = q.length then .leaf q v
    else joinT (q.take (common p q)) (partT (ownT p w (common p q)) (oldK (fun r => .leaf r w) (p.drop (common p q))) (q.drop (common p q)) v)
  | .ext p t, q, v =>
    if common p q = p.length then joinT p (putT t (q.drop (common p q)) v)
    else joinT (q.take (common p q)) (partT [] (oldK (fun r => joinT r t) (p.drop (common p q))) (q.drop (common p q)) v)
  | .br w kids, q, v => match q with
    | [] => .br v kids
    | a :: r => .br w (updT kids a.toNat (putT (kids a.toNat) r v))

theorem cut_eq (c : Nat) (x q : Bs) : x = q ↔ x.take c = q.take c ∧ x.drop c = q.drop c :=
  ⟨fun h => by simp [h], fun ⟨h1, h2⟩ => by rw [← List.take_append_drop c x, h1, h2, List.take_append_drop]⟩
theorem joinT_nil (t : Tr) : joinT [] t = t := by cases t <;> simp [joinT]
theorem pre_iff (p x : Bs) : x.take p.length = p ↔ ∃ r, x = p ++ r :=
  ⟨fun h => ⟨x.drop p.length, by conv => lhs; rw [← List.take_append_drop p.length x, h]⟩, by rintro ⟨r, rfl⟩; simp⟩
theorem pre_app (p q x : Bs) : x.take (p ++ q).length = p ++ q ↔ x.take p.length = p ∧ (x.drop p.length).take q.length = q := by
  rw [pre_iff, pre_iff]
  constructor
  · rintro ⟨r, rfl⟩
    exact ⟨⟨q ++ r, by simp⟩, by simp⟩
  · rintro ⟨⟨r, rfl⟩, h⟩
    rw [List.drop_left, pre_iff] at h
    obtain ⟨s, rfl⟩ := h
    exact ⟨s, by simp⟩
theorem look_join (p : Bs) (t : Tr) (x : Bs) : look (joinT p t) x = if x.take p.length = p then look t (x.drop p.length) else [] := by
  by_cases hp : p = []
  · subst hp; rw [joinT_nil]; simp
  · cases t with
    | nil => simp [joinT, hp, look]
    | leaf q v =>
      simp only [joinT, hp, look, if_false]
      by_cases h : x.take p.length = p
      · rw [if_pos h]
        have : x = p ++ q ↔ x.drop p.length = q := by
          rw [cut_eq p.length x (p ++ q)]; simp [h]
        simp only [this]
      · rw [if_neg h, if_neg]
        intro e; subst e; simp at h
    | ext q t =>
      simp only [joinT, hp, look, if_false]
      by_cases h : x.take p.length = p
      · rw [if_pos h]
        by_cases h2 : (x.drop p.length).take q.length = q
        · rw [if_pos h2, if_pos ((pre_app p q x).2 ⟨h, h2⟩)]
          simp
        · rw [if_neg h2, if_neg (fun e => h2 ((pre_app p q x).1 e).2)]
      · rw [if_neg h, if_neg (fun e => h ((pre_app p q x).1 e).1)]
    | br v kids => simp [joinT, hp, look]
theorem u8_eq {a b : UInt8} (h : a.toNat = b.toNat) : a = b := UInt8.toNat_inj.1 h
theorem look_part (own old q v : Bs) (f : Bs → Tr) (hd : ∀ c d r s, old = c :: r → q = d :: s → c ≠ d) (x : Bs) :
    look (partT own (oldK f old) q v) x = if x = q then v else look (.br own (oldK f old)) x := by
  cases q with
  | nil =>
    cases x with
    | nil => simp [partT, look]
    | cons b s => simp [partT, look]
  | cons a r =>
    cases x with
    | nil => simp [partT, look]
    | cons b s =>
      simp only [partT, look, updT]
      by_cases h : b.toNat = a.toNat
      · have := u8_eq h
        subst this
        simp only [if_true, look]
        by_cases hs : s = r
        · simp [hs]
        · rw [if_neg hs, if_neg (by simpa using hs)]
          cases old with
          | nil => simp [oldK, noT, look]
          | cons c y =>
            have := hd c b y r rfl rfl
            simp only [oldK, updT]
            rw [if_neg (fun e => this (u8_eq e).symm)]
            simp [noT, look]
      · rw [if_neg h, if_neg (by intro e; injection e with e _; subst e; exact h rfl)]
theorem look_oldL (w old y : Bs) : look (.br (if old = [] then w else []) (oldK (fun r => .leaf r w) old)) y = if y = old then w else [] := by
  cases old with
  | nil =>
    cases y with
    | nil => simp [look]
    | cons b s => simp [look, oldK, noT]
  | cons c r =>
    cases y with
    | nil => simp [look]
    | cons b s =>
      simp only [look, oldK, updT]
      by_cases h : b.toNat = c.toNat
      · have := u8_eq h
        subst this
        simp [look]
      · rw [if_neg h, if_neg (by intro e; injection e with e _; subst e; exact h rfl)]
        simp [noT, look]
theorem look_oldE (t : Tr) (old y : Bs) (ho : old ≠ []) : look (.br [] (oldK (fun r => joinT r t) old)) y = if y.take old.length = old then look t (y.drop old.length) else [] := by
  cases old with
  | nil => exact absurd rfl ho
  | cons c r =>
    cases y with
    | nil => simp [look]
    | cons b s =>
      simp only [look, oldK, updT]
      by_cases h : b.toNat = c.toNat
      · have := u8_eq h
        subst this
        rw [if_pos rfl, look_join]
        simp
      · rw [if_neg h, if_neg (by intro e; simp at e; exact h (by rw [e.1]))]
        simp [noT, look]
theorem look_put : ∀ (t : Tr) (q v x : Bs), look (putT t q v) x = if x = q then v else look t x
  | .nil, q, v, x => by simp [putT, look]
  | .leaf p w, q, v, x => by
    have hl := common_le p q
    have ht := common_take p q
    have hn := common_next p q
    unfold putT
    generalize common p q = c at *
    by_cases h : c = p.length ∧ c = q.length
    · rw [if_pos h]
      have hpq : p = q := by
        rw [List.take_of_length_le (by omega), List.take_of_length_le (by omega)] at ht
        exact ht
      subst hpq
      simp only [look]
      split <;> rfl
    · rw [if_neg h, look_join, List.length_take, Nat.min_eq_left hl.2, look_part _ _ _ _ _ (fun c d r s h1 h2 => hn c d r s h1 h2)]
      unfold ownT
      rw [look_oldL]
      simp only [look]
      by_cases h1 : x.take c = q.take c
      · rw [if_pos h1]
        have e1 : x = q ↔ x.drop c = q.drop c := by rw [cut_eq c]; simp [h1]
        have e2 : x = p ↔ x.drop c = p.drop c := by rw [cut_eq c]; simp [h1, ht]
        simp only [e1, e2]
      · rw [if_neg h1, if_neg (fun e => h1 (by rw [e])), if_neg (fun e => h1 (by rw [e, ht]))]
  | .ext p t, q, v, x => by
    have hl := common_le p q
    have ht := common_take p q
    have hn := common_next p q
    unfold putT
    have ih := fun r y => look_put t r v y
    generalize common p q = c at *
    by_cases h : c = p.length
    · rw [if_pos h, look_join, ih]
      subst h
      rw [List.take_length] at ht
      simp only [look]
      by_cases h1 : x.take p.length = p
      · rw [if_pos h1, if_pos h1]
        have e1 : x = q ↔ x.drop p.length = q.drop p.length := by rw [cut_eq p.length]; simp [h1, ← ht]
        simp only [e1]
      · rw [if_neg h1, if_neg h1, if_neg (fun e => h1 (by rw [e, ← ht]))]
    · have ho : p.drop c ≠ [] := by
        intro e; rw [List.drop_eq_nil_iff] at e; omega
      rw [if_neg h, look_join, List.length_take, Nat.min_eq_left hl.2, look_part _ _ _ _ _ (fun c d r s h1 h2 => hn c d r s h1 h2), look_oldE _ _ _ ho]
      simp only [look]
      have hp := pre_app (p.take c) (p.drop c) x
      rw [List.take_append_drop, List.length_take, Nat.min_eq_left hl.1] at hp
      by_cases h1 : x.take c = q.take c
      · rw [if_pos h1]
        have e1 : x = q ↔ x.drop c = q.drop c := by rw [cut_eq c]; simp [h1]
        have e2 : x.take p.length = p ↔ (x.drop c).take (p.drop c).length = p.drop c := by rw [hp]; simp [h1, ht]
        have e3 : (x.drop c).drop (p.drop c).length = x.drop p.length := by
          rw [List.drop_drop, List.length_drop]; congr 1; omega
        simp only [e1, e2, e3]
      · rw [if_neg h1, if_neg (fun e => h1 (by rw [e])), if_neg (fun e => h1 (by rw [← ht]; exact (hp.1 e).1))]
  | .br w kids, q, v, x => by
    cases q with
    | nil =>
      cases x with
      | nil => simp [putT, look]
      | cons b s => simp [putT, look]
    | cons a r =>
      cases x with
      | nil => simp [putT, look]
      | cons b s =>
        simp only [putT, look, updT]
        by_cases h : b.toNat = a.toNat
        · have := u8_eq h
          subst this
          rw [if_pos rfl, look_put (kids b.toNat) r v s]
          simp
        · rw [if_neg h, if_neg (by intro e; injection e with e _; subst e; exact h rfl)]
end Pl
end Go.Proofs.YtdaihimdkgmboaaDoor
