/- RefTD, ROpen. -/
import Derived.Test.YthgjdaomcpinaaaGreatDoorMp45
set_option linter.unnecessarySimpa false
set_option linter.unusedSimpArgs false
set_option linter.unusedVariables false
set_option maxRecDepth 100000
set_option maxHeartbeats 32000000
namespace Go.Proofs.YthgjdaomcpinaaaGreatDoor
open Go.RowKit Go.Shelf Pl
theorem SRow.ltD {w : World} {base k : Nat} {v : Value} {l : List Bs} (h : SRow w base v l) (hk : v.ownBlock = some k) : k < w.heap.size := by
 rcases h.cells with ⟨rfl, _⟩ | ⟨g, cap, rfl, _, h2, _⟩
 ·cases hk
 ·cases hk; exact h2
theorem MRow.ltD {w : World} {base k : Nat} {v : Value} {l : List (Bs × Int)} (h : MRow w base v l) (hk : v.ownBlock = some k) : k < w.heap.size := by
 rcases h.cells with ⟨rfl, _⟩ | ⟨g, cap, rfl, _, h2, _⟩
 ·cases hk
 ·cases hk; exact h2
theorem rtdecode_any (s : Bs) (hs : s.length ≤ 1000000) (w : World) :
  Calls Tryz.prog 13 #[.string ⟨List.toArray s⟩] w fun e w' => ∃ v, e = .returned (.tuple #[v, .int .i64 ((decT s).2)]) ∧ TRow w' w.heap.size v (decT s).1 ∧ Below w.heap.size w w' := by
 rw [← rdecT_eq]
 generalize hR : rdecT s = R
 have HR := Lib.hid hR
 clear hR
 have Z0 : Blk ((w.alloc (.cells ztA 27)).alloc (.cells #[.string ⟨List.toArray s⟩, .int .i64 0] 107)) w.heap.size (List.toArray ztL) := (Blk.new _ _ _).alloc _
 have hb0 : Below w.heap.size w ((w.alloc (.cells ztA 27)).alloc (.cells #[.string ⟨List.toArray s⟩, .int .i64 0] 107)) := Below.allocS (Below.allocS (Below.refl _ _) _) _
 have R0 : RL ((w.alloc (.cells ztA 27)).alloc (.cells #[.string ⟨List.toArray s⟩, .int .i64 0] 107)) (w.heap.size + 1) s 0 := ⟨Blk.new' (by simp), hs⟩
 have h1 := rlText s 0 65536 _ _ R0
 have hl1 := mText_le s 0 65536 (by omega)
 generalize e1 : mText s 0 65536 = y at h1 hl1
 obtain ⟨a, s1, c1⟩ := y
 have E1 := Lib.hid e1
 clear e1
 simp only at h1 hl1
 have hd := fun W => rhdecode_any a (by omega) W
 generalize e4 : decH a = y at hd
 obtain ⟨⟨a1, a2, a3, lb, pa, st, rc, tx, me, ne, K⟩, ec⟩ := y
 have E4 := Lib.hid e4
 clear e4 hl1
 simp only at hd
 go_enter Tryz.func13, Tryz.ntmps13
 go_wp2_with fail
 refine h1.mono ?_
 rintro e w1 ⟨rfl, R1, m1⟩
 have Z1 := Z0.mod m1 (by simp)
 have hb1 := Below.mod hb0 m1 hb0.size (by simp)
 have hs1 : w.heap.size + 2 ≤ w1.heap.size := by have := m1.size; simp at this; omega
 clear h1 m1 Z0 hb0 R0
 go_wp2_with fail
 refine (hd w1).mono ?_
 rintro e w2 ⟨v, rfl, ⟨sk, rfl, r1⟩, hb⟩
 simp only at r1
 obtain ⟨ka, kc, rfl⟩ := r1.form
 have Z2 := Z1.keep hb
 have R2 := R1.keep hb
 have hb2 := hb1.trans (hb.mono hb1.size)
 have hs2 := hb.size
 clear hd hb Z1 R1 hb1
 go_wp2_with (first | (refine wpList_rowStore row_head rfl rfl (.tmp 5) (.tmp 17) rfl rfl rfl (vs := [.int .i64 a1, .int .i64 a2, .int .i64 a3, .bool lb, .string ⟨List.toArray pa⟩, .string ⟨List.toArray st⟩, .string ⟨List.toArray rc⟩, .string ⟨List.toArray tx⟩, .string ⟨List.toArray me⟩, .string ⟨List.toArray ne⟩, .slice ka K.length kc]) rfl (by simp [Value.oneCell']) (us := [.int .i64 0, .int .i64 0, .int .i64 0, .bool false, .string ⟨List.toArray []⟩, .string ⟨List.toArray []⟩, .string ⟨List.toArray []⟩, .string ⟨List.toArray []⟩, .string ⟨List.toArray []⟩, .string ⟨List.toArray []⟩, .slice none 0 0]) rfl (Blk.new' (by simp)) ?_; intro w3 N3 m3))
 have hbn := Below.mod (Below.allocS (Below.refl w2.heap.size w2) (.cells #[.int .i64 0, .int .i64 0, .int .i64 0, .bool false, .string ⟨List.toArray []⟩, .string ⟨List.toArray []⟩, .string ⟨List.toArray []⟩, .string ⟨List.toArray []⟩, .string ⟨List.toArray []⟩, .string ⟨List.toArray []⟩, .slice none 0 0] 24)) m3 (by simp) (by simp)
 have Z3 := Z2.keep hbn
 have R3 := R2.keep hbn
 have r3 := r1.keep hbn
 have hb3 := hb2.trans (hbn.mono hb2.size)
 have hs3 := hbn.size
 clear hbn m3 Z2 R2 r1 hb2
 have h2 := rlText s1 c1 65536 _ _ R3
 have hl2 := mText_le s1 c1 65536 (by omega)
 generalize e2 : mText s1 c1 65536 = y at h2 hl2
 obtain ⟨b, s2, c2⟩ := y
 have E2 := Lib.hid e2
 clear e2
 simp only at h2 hl2
 have hm := fun W => rmdecode_any b (by omega) W
 generalize e5 : decM b = y at hm
 obtain ⟨L, mcod⟩ := y
 have E5 := Lib.hid e5
 clear e5 hl2
 simp only at hm
 refine h2.mono ?_
 rintro e w4 ⟨rfl, R4, m4⟩
 have Z4 := Z3.mod m4 (by simp)
 have N4 := N3.mod m4 (by simp; omega)
 have r4 := r3.mod m4 (by omega)
 have hb4 := Below.mod hb3 m4 hb3.size (by simp)
 have hs4 := m4.size
 clear h2 m4 Z3 R3 r3 hb3 N3
 go_wp2_with fail
 refine (hm w4).mono ?_
 rintro e w5 ⟨v, rfl, r5, hb⟩
 obtain ⟨ma, mc, rfl⟩ := r5.form
 have Z5 := Z4.keep hb
 have R5 := R4.keep hb
 have N5 := N4.keep hb
 have r6 := r4.keep hb
 have hb5 := hb4.trans (hb.mono hb4.size)
 have hs5 := hb.size
 have HML := Lib.hid (fun k (hk : (Value.slice ma L.length mc).ownBlock = some k) => r5.ltD hk)
 have HSL := Lib.hid (fun k (hk : (Value.slice ka K.length kc).ownBlock = some k) => r6.ltD hk)
 clear hm hb Z4 R4 N4 r4 hb4
 go_wp2_with (first | (refine wpList_rowLoad row_head rfl (.tmp 5) rfl rfl (vs := [.int .i64 a1, .int .i64 a2, .int .i64 a3, .bool lb, .string ⟨List.toArray pa⟩, .string ⟨List.toArray st⟩, .string ⟨List.toArray rc⟩, .string ⟨List.toArray tx⟩, .string ⟨List.toArray me⟩, .string ⟨List.toArray ne⟩, .slice ka K.length kc]) rfl N5 ?_) | (refine wpList_rowStore row_trust rfl rfl (.tmp 9) (.tmp 27) rfl rfl rfl (vs := [.int .i64 a1, .int .i64 a2, .int .i64 a3, .bool lb, .string ⟨List.toArray pa⟩, .string ⟨List.toArray st⟩, .string ⟨List.toArray rc⟩, .string ⟨List.toArray tx⟩, .string ⟨List.toArray me⟩, .string ⟨List.toArray ne⟩, .slice ka K.length kc, .slice ma L.length mc, .int .i64 0]) rfl (by simp [Value.oneCell']) (us := ztL) rfl (Blk.new' (by simp)) ?_; intro w6 N6 m6))
 have hbn := Below.mod (Below.allocS (Below.refl w5.heap.size w5) (.cells ztA 27)) m6 (by simp) (by simp)
 have Z6 := Z5.keep hbn
 have R6 := R5.keep hbn
 have r7 := r6.keep hbn
 have r8 := r5.keep hbn
 have hb6 := hb5.trans (hbn.mono hb5.size)
 have hs6 := hbn.size
 clear hbn m6 Z5 R5 r6 r5 hb5 N5
 have h3 := rlNum s2 c2 _ _ R6
 generalize e3 : mNum s2 c2 = y at h3
 obtain ⟨n, s3, c3⟩ := y
 have E3 := Lib.hid e3
 clear e3
 simp only at h3
 refine h3.mono ?_
 rintro e w7 ⟨rfl, R7, m7⟩
 have Z7 := Z6.mod m7 (by simp)
 have N7 := N6.mod m7 (by simp; omega)
 have r9 := r7.mod m7 (by omega)
 have r10 := r8.mod m7 (by omega)
 have hb7 := Below.mod hb6 m7 hb6.size (by simp)
 have hs7 := m7.size
 have HRD : Hid (R = if c3 = 0 ∧ fineT ⟨⟨a1, a2, a3, lb, pa, st, rc, tx, me, ne, K⟩, L, (n : Int)⟩ = true ∧ writT ⟨⟨a1, a2, a3, lb, pa, st, rc, tx, me, ne, K⟩, L, (n : Int)⟩ = s then (⟨⟨a1, a2, a3, lb, pa, st, rc, tx, me, ne, K⟩, L, (n : Int)⟩, 0) else (trZ, 3)) := Lib.hid (by
  rw [← HR.out]
  unfold rdecT
  rw [rdT_at E1.out E2.out E3.out E4.out E5.out])
 clear h3 m7 Z6 R6 N6 r7 r8 hb6 E1 E2 E3 E4 E5 HR
 have m8 := (Mod.refl [w5.heap.size] w7).setCell (p := ⟨w5.heap.size, 12, none⟩) (.inl (by simp)) (.int .i64 ((n : Nat)))
 have Z8 : Blk (w7.setCell ⟨w5.heap.size, 12, none⟩ (.int .i64 ((n : Nat)))) w.heap.size (List.toArray ztL) := Z7.mod m8 (by simp; omega)
 have N8 : Blk (w7.setCell ⟨w5.heap.size, 12, none⟩ (.int .i64 ((n : Nat)))) w5.heap.size (List.toArray [.int .i64 a1, .int .i64 a2, .int .i64 a3, .bool lb, .string ⟨List.toArray pa⟩, .string ⟨List.toArray st⟩, .string ⟨List.toArray rc⟩, .string ⟨List.toArray tx⟩, .string ⟨List.toArray me⟩, .string ⟨List.toArray ne⟩, .slice ka K.length kc, .slice ma L.length mc, .int .i64 ((n : Nat))]) := by simpa using N7.set 12 (.int .i64 ((n : Nat)))
 have R8 := R7.mod m8 (by simp; omega)
 have r11 : SRow (w7.setCell ⟨w5.heap.size, 12, none⟩ (.int .i64 ((n : Nat)))) w1.heap.size (.slice ka K.length kc) K := r9.kept (fun k hk => m8.block k (r9.ltD hk) (by have := HSL.out k hk; simp; omega))
 have hb8 := Below.mod hb7 m8 hb7.size (by simp; omega)
 have r12 : MRow (w7.setCell ⟨w5.heap.size, 12, none⟩ (.int .i64 ((n : Nat)))) w4.heap.size (.slice ma L.length mc) L := r10.kept (fun k hk => m8.block k (r10.ltD hk) (by have := HML.out k hk; simp; omega))
 have RB := R8.blk
 obtain ⟨b1, b2, b3⟩ := id N7
 clear R7 Z7 N7 r9 r10 hb7 R8 m8 HML HSL
 obtain ⟨i1, i2, i3⟩ := id RB
 have qf := fun (W : World) (h1 : SS W (.slice ka K.length kc) K) (h2 : MS W (.slice ma L.length mc) L) => rtfine_any a1 a2 a3 lb pa st rc tx me ne K _ L _ (n : Int) W h1 h2
 have HWW := Lib.hid (fun (W : World) (h1 : SS W (.slice ka K.length kc) K) (h2 : MS W (.slice ma L.length mc) L) => rtwrit_any a1 a2 a3 lb pa st rc tx me ne K _ _ L _ _ (n : Int) W h1 h2)
 by_cases h0 : c3 = 0
 ·subst h0
  have hck := qf _ r11.ss r12.ms
  cases hf : fineT ⟨⟨a1, a2, a3, lb, pa, st, rc, tx, me, ne, K⟩, L, (n : Int)⟩
  ·rw [hf] at hck
   have HRE : Hid (R = (trZ, 3)) := Lib.hid (by rw [HRD.out, if_neg (fun h => by rw [hf] at h; exact absurd h.2.1 (by decide))])
   clear hf HRD HWW qf
   skip
   go_wp2_with (first | (refine wpList_rowLoadG row_trust ?hw (.tmp 9) rfl rfl (vs := [.int .i64 a1, .int .i64 a2, .int .i64 a3, .bool lb, .string ⟨List.toArray pa⟩, .string ⟨List.toArray st⟩, .string ⟨List.toArray rc⟩, .string ⟨List.toArray tx⟩, .string ⟨List.toArray me⟩, .string ⟨List.toArray ne⟩, .slice ka K.length kc, .slice ma L.length mc, .int .i64 ((n : Nat))]) rfl N8 ?_; (case hw => rfl)))
   refine hck.mono ?_
   rintro e w14 ⟨rfl, hbx⟩
   have Z14 := Z8.keep hbx
   have hb14 := hb8.trans (hbx.mono hb8.size)
   clear hck hbx hb8 Z8 r11 r12 i1 i2 i3 b1 b2 b3
   go_wp2_with (first | (refine wpList_rowStore row_trust rfl rfl (.tmp 2) (.tmp 47) rfl rfl rfl (vs := [.int .i64 0, .int .i64 0, .int .i64 0, .bool false, .string ⟨List.toArray []⟩, .string ⟨List.toArray []⟩, .string ⟨List.toArray []⟩, .string ⟨List.toArray []⟩, .string ⟨List.toArray []⟩, .string ⟨List.toArray []⟩, .slice none 0 0, .slice none 0 0, .int .i64 0]) rfl (by simp [Value.oneCell']) (us := ztL) rfl Z14 ?_; intro w16 N16 m16))
   have hld := row_loadVar row_trust w16 (vs := [.int .i64 0, .int .i64 0, .int .i64 0, .bool false, .string ⟨List.toArray []⟩, .string ⟨List.toArray []⟩, .string ⟨List.toArray []⟩, .string ⟨List.toArray []⟩, .string ⟨List.toArray []⟩, .string ⟨List.toArray []⟩, .slice none 0 0, .slice none 0 0, .int .i64 0]) rfl N16
   refine bodyPost_ret (results_cell_tmp2 rfl _ _ _ _ rfl hld) rfl ?_
   rw [HRE.out]
   exact ⟨_, rfl, ⟨_, _, rfl, SRow.nil _ _, MRow.nil _ _⟩, Below.mod hb14 m16 hb14.size (by simp)⟩
  ·rw [hf] at hck
   have qw := fun (W : World) (h1 : SS W (.slice ka K.length kc) K) (h2 : MS W (.slice ma L.length mc) L) => HWW.out W h1 h2 hf
   by_cases hws : writT ⟨⟨a1, a2, a3, lb, pa, st, rc, tx, me, ne, K⟩, L, (n : Int)⟩ = s
   ·have HRE : Hid (R = (⟨⟨a1, a2, a3, lb, pa, st, rc, tx, me, ne, K⟩, L, (n : Int)⟩, 0)) := Lib.hid (by rw [HRD.out, if_pos ⟨rfl, hf, hws⟩])
    rw [hws] at qw
    clear hf HRD HWW qf hws
    skip
    go_wp2_with (first | (refine wpList_rowLoadG row_trust ?hw (.tmp 9) rfl rfl (vs := [.int .i64 a1, .int .i64 a2, .int .i64 a3, .bool lb, .string ⟨List.toArray pa⟩, .string ⟨List.toArray st⟩, .string ⟨List.toArray rc⟩, .string ⟨List.toArray tx⟩, .string ⟨List.toArray me⟩, .string ⟨List.toArray ne⟩, .slice ka K.length kc, .slice ma L.length mc, .int .i64 ((n : Nat))]) rfl N8 ?_; (case hw => rfl)))
    refine hck.mono ?_
    rintro e w14 ⟨rfl, hbx⟩
    have Z14 := Z8.keep hbx
    have N14 := N8.keep hbx
    have u11 := r11.keep hbx
    have u12 := r12.keep hbx
    have hb14 := hb8.trans (hbx.mono hb8.size)
    clear hck hbx hb8 Z8 r11 r12 i1 i2 i3 b1 b2 b3
    go_wp2_with (first | (refine wpList_rowLoadG row_trust ?hw (.tmp 9) rfl rfl (vs := [.int .i64 a1, .int .i64 a2, .int .i64 a3, .bool lb, .string ⟨List.toArray pa⟩, .string ⟨List.toArray st⟩, .string ⟨List.toArray rc⟩, .string ⟨List.toArray tx⟩, .string ⟨List.toArray me⟩, .string ⟨List.toArray ne⟩, .slice ka K.length kc, .slice ma L.length mc, .int .i64 ((n : Nat))]) rfl N14 ?_; (case hw => rfl)))
    refine (qw _ u11.ss u12.ms).mono ?_
    rintro e w15 ⟨rfl, hbx⟩
    have Z15 := Z14.keep hbx
    have N15 := N14.keep hbx
    have y11 := u11.keep hbx
    have y12 := u12.keep hbx
    have hb15 := hb14.trans (hbx.mono hb14.size)
    clear qw hbx hb14 Z14 N14 u11 u12
    go_wp2_with (first | (refine wpList_rowLoad row_trust rfl (.tmp 9) rfl rfl (vs := [.int .i64 a1, .int .i64 a2, .int .i64 a3, .bool lb, .string ⟨List.toArray pa⟩, .string ⟨List.toArray st⟩, .string ⟨List.toArray rc⟩, .string ⟨List.toArray tx⟩, .string ⟨List.toArray me⟩, .string ⟨List.toArray ne⟩, .slice ka K.length kc, .slice ma L.length mc, .int .i64 ((n : Nat))]) rfl N15 ?_) | (refine wpList_rowStore row_trust rfl rfl (.tmp 2) (.tmp 48) rfl rfl rfl (vs := [.int .i64 a1, .int .i64 a2, .int .i64 a3, .bool lb, .string ⟨List.toArray pa⟩, .string ⟨List.toArray st⟩, .string ⟨List.toArray rc⟩, .string ⟨List.toArray tx⟩, .string ⟨List.toArray me⟩, .string ⟨List.toArray ne⟩, .slice ka K.length kc, .slice ma L.length mc, .int .i64 ((n : Nat))]) rfl (by simp [Value.oneCell']) (us := ztL) rfl Z15 ?_; intro w16 N16 m16))
    have hld := row_loadVar row_trust w16 (vs := [.int .i64 a1, .int .i64 a2, .int .i64 a3, .bool lb, .string ⟨List.toArray pa⟩, .string ⟨List.toArray st⟩, .string ⟨List.toArray rc⟩, .string ⟨List.toArray tx⟩, .string ⟨List.toArray me⟩, .string ⟨List.toArray ne⟩, .slice ka K.length kc, .slice ma L.length mc, .int .i64 ((n : Nat))]) rfl N16
    refine bodyPost_ret (results_cell_tmp2 rfl _ _ _ _ rfl hld) rfl ?_
    rw [HRE.out]
    exact ⟨_, rfl, ⟨_, _, rfl, SRow.low (y11.mod m16 (by omega)) (by omega), MRow.low (y12.mod m16 (by omega)) (by omega)⟩, Below.mod hb15 m16 hb15.size (by simp)⟩
   ·have HRE : Hid (R = (trZ, 3)) := Lib.hid (by rw [HRD.out, if_neg (fun h => hws h.2.2)])
    have e1 : (writT ⟨⟨a1, a2, a3, lb, pa, st, rc, tx, me, ne, K⟩, L, (n : Int)⟩ != s) = true := by simpa using hws
    have e2 : (writT ⟨⟨a1, a2, a3, lb, pa, st, rc, tx, me, ne, K⟩, L, (n : Int)⟩ == s) = false := by simpa using hws
    have e3 : decide (writT ⟨⟨a1, a2, a3, lb, pa, st, rc, tx, me, ne, K⟩, L, (n : Int)⟩ = s) = false := by simpa using hws
    clear hf HRD HWW qf hws
    generalize writT ⟨⟨a1, a2, a3, lb, pa, st, rc, tx, me, ne, K⟩, L, (n : Int)⟩ = V at *
    skip
    go_wp2_with (first | (refine wpList_rowLoadG row_trust ?hw (.tmp 9) rfl rfl (vs := [.int .i64 a1, .int .i64 a2, .int .i64 a3, .bool lb, .string ⟨List.toArray pa⟩, .string ⟨List.toArray st⟩, .string ⟨List.toArray rc⟩, .string ⟨List.toArray tx⟩, .string ⟨List.toArray me⟩, .string ⟨List.toArray ne⟩, .slice ka K.length kc, .slice ma L.length mc, .int .i64 ((n : Nat))]) rfl N8 ?_; (case hw => rfl)))
    refine hck.mono ?_
    rintro e w14 ⟨rfl, hbx⟩
    have Z14 := Z8.keep hbx
    have N14 := N8.keep hbx
    have u11 := r11.keep hbx
    have u12 := r12.keep hbx
    have hb14 := hb8.trans (hbx.mono hb8.size)
    clear hck hbx hb8 Z8 r11 r12 i1 i2 i3 b1 b2 b3
    go_wp2_with (first | (refine wpList_rowLoadG row_trust ?hw (.tmp 9) rfl rfl (vs := [.int .i64 a1, .int .i64 a2, .int .i64 a3, .bool lb, .string ⟨List.toArray pa⟩, .string ⟨List.toArray st⟩, .string ⟨List.toArray rc⟩, .string ⟨List.toArray tx⟩, .string ⟨List.toArray me⟩, .string ⟨List.toArray ne⟩, .slice ka K.length kc, .slice ma L.length mc, .int .i64 ((n : Nat))]) rfl N14 ?_; (case hw => rfl)))
    refine (qw _ u11.ss u12.ms).mono ?_
    rintro e w15 ⟨rfl, hbx⟩
    have Z14 := Z14.keep hbx
    have hb14 := hb14.trans (hbx.mono hb14.size)
    clear qw hbx N14 u11 u12
    go_wp2_with (first | (refine wpList_rowStore row_trust rfl rfl (.tmp 2) (.tmp 47) rfl rfl rfl (vs := [.int .i64 0, .int .i64 0, .int .i64 0, .bool false, .string ⟨List.toArray []⟩, .string ⟨List.toArray []⟩, .string ⟨List.toArray []⟩, .string ⟨List.toArray []⟩, .string ⟨List.toArray []⟩, .string ⟨List.toArray []⟩, .slice none 0 0, .slice none 0 0, .int .i64 0]) rfl (by simp [Value.oneCell']) (us := ztL) rfl Z14 ?_; intro w16 N16 m16))
    have hld := row_loadVar row_trust w16 (vs := [.int .i64 0, .int .i64 0, .int .i64 0, .bool false, .string ⟨List.toArray []⟩, .string ⟨List.toArray []⟩, .string ⟨List.toArray []⟩, .string ⟨List.toArray []⟩, .string ⟨List.toArray []⟩, .string ⟨List.toArray []⟩, .slice none 0 0, .slice none 0 0, .int .i64 0]) rfl N16
    refine bodyPost_ret (results_cell_tmp2 rfl _ _ _ _ rfl hld) rfl ?_
    rw [HRE.out]
    exact ⟨_, rfl, ⟨_, _, rfl, SRow.nil _ _, MRow.nil _ _⟩, Below.mod hb14 m16 hb14.size (by simp)⟩
 ·have e1 : (c3 == 0) = false := by simpa using h0
  have e2 : (c3 != 0) = true := by simpa using h0
  have HRE : Hid (R = (trZ, 3)) := Lib.hid (by rw [HRD.out, if_neg (fun h => h0 h.1)])
  have Z14 := Z8
  have hb14 := hb8
  clear h0 HRD r11 r12 Z8 hb8 HWW qf
  skip
  go_wp2_with (first | (refine wpList_rowStore row_trust rfl rfl (.tmp 2) (.tmp 47) rfl rfl rfl (vs := [.int .i64 0, .int .i64 0, .int .i64 0, .bool false, .string ⟨List.toArray []⟩, .string ⟨List.toArray []⟩, .string ⟨List.toArray []⟩, .string ⟨List.toArray []⟩, .string ⟨List.toArray []⟩, .string ⟨List.toArray []⟩, .slice none 0 0, .slice none 0 0, .int .i64 0]) rfl (by simp [Value.oneCell']) (us := ztL) rfl Z14 ?_; intro w16 N16 m16))
  have hld := row_loadVar row_trust w16 (vs := [.int .i64 0, .int .i64 0, .int .i64 0, .bool false, .string ⟨List.toArray []⟩, .string ⟨List.toArray []⟩, .string ⟨List.toArray []⟩, .string ⟨List.toArray []⟩, .string ⟨List.toArray []⟩, .string ⟨List.toArray []⟩, .slice none 0 0, .slice none 0 0, .int .i64 0]) rfl N16
  refine bodyPost_ret (results_cell_tmp2 rfl _ _ _ _ rfl hld) rfl ?_
  rw [HRE.out]
  exact ⟨_, rfl, ⟨_, _, rfl, SRow.nil _ _, MRow.nil _ _⟩, Below.mod hb14 m16 hb14.size (by simp)⟩
end Go.Proofs.YthgjdaomcpinaaaGreatDoor
namespace Go.Proofs.YthgjdaomcpinaaaGreatDoor
open Go.RowKit Go.WideMaps Go.Maps Go.Sort Go.Shelf Pl
theorem three_st (w : World) (d : Dk) : Blk (((w.alloc (.cells (dcs d).toArray 72)).alloc (.cells (dcs ⟨[], 0, 0, 0, false⟩).toArray 72)).alloc (.cells zst.toArray 76)) w.heap.size (dcs d).toArray ∧
  Blk (((w.alloc (.cells (dcs d).toArray 72)).alloc (.cells (dcs ⟨[], 0, 0, 0, false⟩).toArray 72)).alloc (.cells zst.toArray 76)) (w.heap.size + 1) (dcs ⟨[], 0, 0, 0, false⟩).toArray ∧
  Blk (((w.alloc (.cells (dcs d).toArray 72)).alloc (.cells (dcs ⟨[], 0, 0, 0, false⟩).toArray 72)).alloc (.cells zst.toArray 76)) (w.heap.size + 2) zst.toArray ∧
  Below w.heap.size w (((w.alloc (.cells (dcs d).toArray 72)).alloc (.cells (dcs ⟨[], 0, 0, 0, false⟩).toArray 72)).alloc (.cells zst.toArray 76)) :=
 ⟨((Blk.new _ _ _).alloc _).alloc _, (Blk.new' (by simp)).alloc _, Blk.new' (by simp), Below.allocS (Below.allocS (Below.allocS (Below.refl _ _) _) _) _⟩
theorem res_os3 {fn : Func} {a b c : Nat} (h : fn.results = #[.cell a 72, .cell b 76, .tmp c]) (tmps : Array Value) (W : World) (d : Dk) (k m : Nat) (us : List Value) (hl : us.length = 8) (hp : tmps.getD a undef = .pointer (some ⟨k, 0, none⟩)) (hB : Blk W k (dcs d).toArray) (hp2 : tmps.getD b undef = .pointer (some ⟨m, 0, none⟩)) (hB2 : Blk W m us.toArray) :
  (results fn tmps).run Tryz.prog W = .ok (.tuple #[dv d, .agg us.toArray, tmps.getD c undef]) W := by
 unfold results
 rw [h]
 rw [Array.getD_eq_getD_getElem?] at hp hp2
 have h1 := row_loadVar row_dk W rfl hB
 have h2 := row_loadVar row_st W hl hB2
 simp [hp, hp2, asAddr, h1, h2, Sem.run_bind]
def rsopened (w w' : World) (av : List Nat) (sp : Int) (T : List (Int × Tr)) (r : Dk × Int) (e : Ending) : Prop :=
 Below w.heap.size w w' ∧ (r.2 = 0 → ∃ v l, e = .returned (.tuple #[dv r.1, stv v sp r.1 false, .int .i64 0]) ∧ Im l T ∧ TLA w' av v l) ∧
  (r.2 ≠ 0 → e = .returned (.tuple #[dv r.1, .agg zst.toArray, .int .i64 r.2]))
theorem ropen_any (av : List Nat) (d : Dk) (sp : Int) (h0 : 1 ≤ sp) (h1 : sp ≤ 1099511627776) (B : List (List Bs)) (T : List (Int × Tr)) (tail : Bs) (hs : d.s = recsP B ++ tail) (hB : ∀ b ∈ B, mayR b = true ∧ b.length ≤ 1000) (ht : CutT tail) (hl : d.s.length ≤ 1048576) (hc : Chgs [] B.flatten T) (hn : B.flatten.length ≤ 1000) (hbl : B.length ≤ 100000)
  (hf : -9223372036854775806 ≤ d.fuse ∧ d.fuse ≤ 9223372036854775807) (w : World) (hav : ∀ x ∈ av, x < w.heap.size) :
  Calls Tryz.prog 37 #[dv d, .int .i64 sp] w fun e w' => rsopened w w' av sp T (openD d (recsP B).length) e := by
 have q1 := fun W => rjopen_any d B tail hs hB ht hl hf W
 have d0 : decide (sp < 1) = false := by simp; omega
 have d1 : decide (1099511627776 < sp) = false := by simp; omega
 have HC := Lib.hid hc
 have HN := Lib.hid hn
 have HAV := Lib.hid hav
 generalize openD d (recsP B).length = r at *
 obtain ⟨⟨s2, sf2, rm2, fu2, dn2⟩, c⟩ := r
 obtain ⟨s, safe, room, fuse, down⟩ := d
 obtain ⟨B1, B2, B3, hb2⟩ := three_st w ⟨s, safe, room, fuse, down⟩
 obtain ⟨m1, m2, m3⟩ := id B1
 clear hs ht hB hl hf hc hn hav
 go_enter Tryz.func37, Tryz.ntmps37
 go_wp2_with (first | (refine wpList_rowLoad row_dk rfl (.tmp 2) rfl rfl (vs := dcs ⟨s, safe, room, fuse, down⟩) rfl B1 ?_) | fail)
 refine (q1 _).mono ?_
 rintro e w3 ⟨hb, hy, hno⟩
 simp only at hy hno
 have B13 := B1.keep hb
 have B23 := B2.keep hb
 have B33 := B3.keep hb
 have hb3 := hb2.trans (hb.mono hb2.size)
 have hs3 : w.heap.size + 3 ≤ w3.heap.size := by have := hb.size; simp at this; exact this
 clear m1 m2 m3 B1 B2 B3 q1
 by_cases hc0 : c = 0
 ·subst hc0
  obtain ⟨v, rfl, hS⟩ := hy rfl
  obtain ⟨sa, sc, rfl⟩ := hS.form
  have HS := Lib.hid (hS.low (show w.heap.size + 3 ≤ _ from by simp))
  clear hS hy hno
  go_wp2_with (first
   | (refine wpList_rowStore row_dk rfl rfl (.tmp 2) (.tmp 30) rfl rfl rfl (vs := dcs ⟨s2, sf2, rm2, fu2, dn2⟩) rfl (dcs_one _) (us := dcs ⟨s, safe, room, fuse, down⟩) rfl B13 ?_; intro w4 N4 m4; have hb4 := mod_two hb3 m4 (Nat.le_refl _) (by omega); have B24 := B23.mod m4 (by simp); have B34 := B33.mod m4 (by simp); have hs4 := m4.size; have HS4 := Lib.hid (HS.out.modl m4 (by simp)))
   | fail)
  have HAV4 : Hid (∀ x ∈ w.heap.size :: (w.heap.size + 1) :: (w.heap.size + 2) :: av, x < w4.heap.size) := Lib.hid (fun x hx => by
   simp only [List.mem_cons] at hx
   rcases hx with rfl | rfl | rfl | hx
   ·omega
   ·omega
   ·omega
   ·have := HAV.out x hx; omega)
  obtain ⟨AV, hAV⟩ : ∃ AV, AV = w.heap.size :: (w.heap.size + 1) :: (w.heap.size + 2) :: av := ⟨_, rfl⟩
  rw [← hAV] at HAV4
  have HAVQ := Lib.hid hAV
  clear hAV
  have HTL0 : Hid (TLA w4 AV (.slice none 0 0) []) := Lib.hid (TLA.nil _ _)
  have HC0 : Hid (Chgs [] (B.drop 0).flatten T) := HC
  have HL0 : Hid (([] : List Tr).length + (B.drop 0).flatten.length ≤ 1000) := Lib.hid (by simpa using HN.out)
  go_loopw [9, 10] (fun s9 s10 wr => ∃ (i : Nat) (Ti : List (Int × Tr)) (li : List Tr), i ≤ B.length ∧ s10 = .int .i64 i ∧ Hid (TLA wr AV s9 li) ∧ Hid (Im li Ti) ∧ Hid (Chgs Ti (B.drop i).flatten T) ∧ Hid (li.length + (B.drop i).flatten.length ≤ 1000) ∧ Below w4.heap.size w4 wr) (fun _ s10 _ => B.length - (intOf s10).toNat)
  case atStart => exact ⟨0, [], [], by omega, rfl, HTL0, Lib.hid Im.nil, HC0, HL0, Below.refl _ _⟩
  case round =>
   obtain ⟨i, Ti, li, hi, rfl, HTi, HIi, HCi, HLi, hbr⟩ := hrel
   clear HTL0 HC0 HL0
   obtain ⟨va, vc, rfl⟩ := HTi.out.form
   have hsr := hbr.size
   by_cases hlt : i < B.length
   ·have hbd : 0 ≤ (i : Int) ∧ (i : Int) < (B.length : Int) := by omega
    obtain ⟨g, u, e1, hg, c0, hu⟩ := HS4.out.at i hlt
    subst e1
    have c1 := (hbr.cell (p := ⟨g, i, none⟩) hg).trans c0
    have HFD := Lib.hid (flat_drop B i hlt)
    obtain ⟨R, hR⟩ : ∃ R, R = (B.drop (i + 1)).flatten := ⟨_, rfl⟩
    have HR := Lib.hid hR
    rw [← hR] at HFD
    have HCb := Lib.hid (show Chgs Ti (B.getD i [] ++ R) T from by rw [← HFD.out]; exact HCi.out)
    have HLb := Lib.hid (show li.length + (B.getD i [] ++ R).length ≤ 1000 from by rw [← HFD.out]; exact HLi.out)
    generalize B.getD i [] = b at *
    obtain ⟨ua, uc, rfl⟩ := hu.form
    have HU := Lib.hid hu.ss
    have hul := hu.ss.small
    have HGC := Lib.hid c0
    clear hR HCi HLi HFD hu c0
    go_wp2_with fail
    go_loopw [9, 11] (fun s9 s11 wq => ∃ (k : Nat) (Tk : List (Int × Tr)) (lk : List Tr), k ≤ b.length ∧ s11 = .int .i64 k ∧ Hid (TLA wq AV s9 lk) ∧ Hid (Im lk Tk) ∧ Hid (Chgs Tk (b.drop k ++ R) T) ∧ Hid (lk.length + (b.drop k ++ R).length ≤ 1000) ∧ Below w4.heap.size w4 wq) (fun _ s11 _ => b.length - (intOf s11).toNat)
    case atStart => exact ⟨0, Ti, li, by omega, rfl, HTi, HIi, HCb, HLb, hbr⟩
    case round =>
     clear HTi HIi HCb HLb c1
     obtain ⟨k, Tk, lk, hk, rfl, HTk, HIk, HCk, HLk, hbk⟩ := hrel
     obtain ⟨wq, hnm⟩ := Below.name hbk
     subst hnm
     obtain ⟨ka, kc, rfl⟩ := HTk.out.form
     have hsk := hbk.size
     have cq := (hbk.cell (p := ⟨g, i, none⟩) hg).trans HGC.out
     by_cases hlk : k < b.length
     ·have hbd2 : 0 ≤ (k : Int) ∧ (k : Int) < (b.length : Int) := by omega
      obtain ⟨g2, off2, e2, hg2, c2⟩ := (HU.out.keep hbk).at' k hlk
      subst e2
      have hCk := HCk.out
      have hLk := HLk.out
      rw [drop_at b k hlk] at hCk hLk
      rw [List.cons_append, List.length_cons] at hLk
      obtain ⟨T1, hg3, hCn⟩ := Chgs.head (show Chgs Tk (b.getD k [] :: (b.drop (k + 1) ++ R)) T from hCk)
      have HCn := Lib.hid hCn
      have HLK := Lib.hid hLk
      have HAVk : Hid (∀ x ∈ AV, x < wq.heap.size) := Lib.hid (fun x hx => Nat.lt_of_lt_of_le (HAV4.out x hx) hsk)
      generalize b.getD k [] = s at *
      clear hCk hLk hCn HCk HLk
      cases hg3 with
      | come t hf hh =>
       have hwl := writT_len hf
       have q5 := fun W => rtdecode_any (writT t) (by omega) W
       rw [decT_writ hf] at q5
       simp only at q5
       have q6 := fun (v sk ms : Value) (W : World) (hv : TLA W AV v lk) (ht : ElA W AV (t, sk, ms)) (hx : ∀ x ∈ AV, x < W.heap.size) => rwith_any AV v lk t sk ms (by have := HLK.out; omega) W hv ht hx
       have HLn : Hid ((withL lk t).length + (b.drop (k + 1) ++ R).length ≤ 1000) := Lib.hid (by have h1 := HLK.out; have h2 := withL_len lk t; omega)
       have HIn : Hid (Im (withL lk t) (putK Tk t.head.height t)) := Lib.hid (HIk.out.with t)
       generalize hX : writT t = X at *
       have k1 : (1 : Int) ≤ (X.length : Int) + 1 := by omega
       clear hX HLK
       go_wp2_with fail
       refine (q5 _).mono ?_
       rintro e w5 ⟨v, rfl, ⟨sk, ms, rfl, r1, r2⟩, hb5⟩
       obtain ⟨ka, kc, rfl⟩ := r1.form
       obtain ⟨ma, mc, rfl⟩ := r2.form
       have hs5 := hb5.size
       clear q5 cq c2
       go_wp2_with (first
        | (refine wpList_rowStore row_trust rfl rfl (.tmp 13) (.tmp 81) rfl rfl rfl (vs := [.int .i64 t.head.height, .int .i64 t.head.epoch, .int .i64 t.head.view, .bool t.head.last, .string ⟨List.toArray t.head.parent⟩, .string ⟨List.toArray t.head.state⟩, .string ⟨List.toArray t.head.receipts⟩, .string ⟨List.toArray t.head.txs⟩, .string ⟨List.toArray t.head.members⟩, .string ⟨List.toArray t.head.next⟩, .slice ka t.head.skips.length kc, .slice ma t.set.length mc, .int .i64 t.at_]) rfl (by simp [Value.oneCell']) (us := ztL) rfl (Blk.new' (by simp)) ?_; intro w6 N6 m6; have hb6 := Below.mod (Below.allocS (Below.refl w5.heap.size w5) (.cells ztA 27)) m6 (by simp) (by simp))
        | (refine wpList_rowLoad row_trust rfl (.tmp 13) rfl rfl (vs := [.int .i64 t.head.height, .int .i64 t.head.epoch, .int .i64 t.head.view, .bool t.head.last, .string ⟨List.toArray t.head.parent⟩, .string ⟨List.toArray t.head.state⟩, .string ⟨List.toArray t.head.receipts⟩, .string ⟨List.toArray t.head.txs⟩, .string ⟨List.toArray t.head.members⟩, .string ⟨List.toArray t.head.next⟩, .slice ka t.head.skips.length kc, .slice ma t.set.length mc, .int .i64 t.at_]) rfl N6 ?_)
        | fail)
       have hb56 := hb5.trans (hb6.mono hs5)
       have hs56 := hb56.size
       refine (q6 _ _ _ _ (HTk.out.keep hb56) ⟨SSA.row (r1.keep hb6) (fun x hx => HAVk.out x hx), MSA.row (r2.keep hb6) (fun x hx => HAVk.out x hx), r1.plain, r2.plain⟩ (fun x hx => Nat.lt_of_lt_of_le (HAVk.out x hx) hs56)).mono ?_
       rintro e w7 ⟨v7, rfl, hT7, hb7⟩
       have hb8 := hbk.trans ((hb56.trans (hb7.mono hs56)).mono hsk)
       go_wp2_with fail
       exact ⟨⟨k + 1, _, _, by omega, by go_num, Lib.hid hT7, HIn, HCn, HLn, hb8⟩, by simp [intOf]; omega⟩
      | goes x hx hin =>
       have hnl := num_len x
       have e1 : mNum (num x) 0 = (x, [], 0) := by
        have h := take_num x hx []
        rw [List.append_nil] at h
        unfold mNum
        rw [if_neg (by simp), h, if_neg (by simp)]
       have q5 := fun W p (h : RRdr W p (num x) 0) => rrNum_any (num x) 0 p W (by omega) h
       rw [e1] at q5
       simp only at q5
       have q7 := fun W p (h : RRdr W p [] 0) => rrEnd_any [] 0 p W (by simp) h
       rw [show mEnd [] 0 = 0 from rfl] at q7
       have hth : thereL (x : Int) lk = true := (HIk.out.there _).2 hin
       have q6 := fun (v : Value) (W : World) (hv : TLA W AV v lk) => rfind_any AV v lk (x : Int) W hv
       rw [hth] at q6
       have q8 := fun (v : Value) (W : World) (hv : TLA W AV v lk) (hx : ∀ x ∈ AV, x < W.heap.size) => rwithout_any AV v lk (x : Int) (by have := HLK.out; omega) hth W hv hx
       have HLn : Hid ((withoutL lk (x : Int)).length + (b.drop (k + 1) ++ R).length ≤ 1000) := Lib.hid (by have h1 := HLK.out; have h2 := withoutL_len lk (x : Int); omega)
       have HIn : Hid (Im (withoutL lk (x : Int)) (delK Tk (x : Int))) := Lib.hid (HIk.out.without hth)
       generalize hX : num x = X at *
       have k1 : (1 : Int) ≤ (X.length : Int) + 1 := by omega
       clear hX HLK e1 hth
       have R0 : RRdr (wq.alloc (.cells #[.string ⟨List.toArray X⟩, .int .i64 0] 107)) wq.heap.size X 0 := Blk.new _ _ _
       have hb0 : Below wq.heap.size wq (wq.alloc (.cells #[.string ⟨List.toArray X⟩, .int .i64 0] 107)) := Below.allocS (Below.refl _ _) _
       go_wp2_with fail
       refine (q5 _ _ R0).mono ?_
       rintro e w5 ⟨rfl, R5, m5⟩
       have hb5 := Below.mod hb0 m5 hb0.size (by simp)
       clear q5 R0 hb0 m5 cq c2
       go_wp2_with fail
       refine (q6 _ _ (HTk.out.keep hb5)).mono ?_
       rintro e w6 ⟨rfl, hb6⟩
       have R6 := R5.keep hb6
       have hb56 := hb5.trans (hb6.mono hb5.size)
       clear q6 R5 hb5 hb6
       go_wp2_with fail
       refine (q7 _ _ R6).mono ?_
       rintro e w7 ⟨rfl, m7⟩
       have hb7 := Below.mod hb56 m7 hb56.size (by simp)
       have hs7 := hb7.size
       clear q7 R6 m7 hb56
       go_wp2_with fail
       refine (q8 _ _ (HTk.out.keep hb7) (fun x hx => Nat.lt_of_lt_of_le (HAVk.out x hx) hs7)).mono ?_
       rintro e w8 ⟨v8, rfl, hT8, hb8⟩
       have hb9 := hbk.trans ((hb7.trans (hb8.mono hs7)).mono hsk)
       go_wp2_with fail
       exact ⟨⟨k + 1, _, _, by omega, by go_num, Lib.hid hT8, HIn, HCn, HLn, hb9⟩, by simp [intOf]; omega⟩
     ·have hkl : k = b.length := by omega
      subst hkl
      have HC2 : Hid (Chgs Tk (B.drop (i + 1)).flatten T) := Lib.hid (by have h := HCk.out; rw [List.drop_length, List.nil_append, HR.out] at h; exact h)
      have HL2 : Hid (lk.length + (B.drop (i + 1)).flatten.length ≤ 1000) := Lib.hid (by have h := HLk.out; rw [List.drop_length, List.nil_append, HR.out] at h; exact h)
      clear HCk HLk
      go_wp2_with fail
      exact ⟨⟨i + 1, Tk, lk, by omega, by go_num, HTk, HIk, HC2, HL2, hbk⟩, by simp [intOf]; omega⟩
   ·have hil : i = B.length := by omega
    subst hil
    have hC0 := HCi.out
    rw [List.drop_length] at hC0
    obtain rfl := hC0.none
    have hN4 := N4.keep hbr
    have hB24 := B24.keep hbr
    have hB34 := B34.keep hbr
    have hbw := hb4.trans (hbr.mono (by omega))
    have hTI := HTi.out
    rw [HAVQ.out] at hTI
    clear HCi HLi hC0 hlt hi
    go_wp2_with fail
    refine wpH_startM [w.heap.size + 1, w.heap.size + 2] (by kernel_rfl) (fun hS => ?_)
    have K24 := hB24.drew
    have K34 := hB34.drew
    refine wpH_row row_dk 0 (oi := { dst := some 114, op := Op.load 72 (Operand.tmp 2), type := 72, pos := "ref.go:132", after := #[], guard := none }) rfl (by kernel_rfl) (by kernel_rfl) (by kernel_rfl) (by rfl) hS (vs := dcs ⟨s2, sf2, rm2, fu2, dn2⟩) (fun _ _ _ h => h) (.tmp 2) rfl rfl (rfl) (fun w' hb2 => hN4.mod hb2 (by simp)) ?_
    try simp only [pna, pnb, pnc, pnd, pne]
    (refine hP 1 ?_ ⟨some 115, .move (.tmp 9), 48, "", #[], none⟩ hS ?_ ?_; rotate_left; focus (intro w; go_simp; try with_reducible rfl))
    try simp only [pna, pnb, pnc, pnd, pne]
    (refine hP 2 ?_ ⟨some 116, .move (.tmp 1), 3, "", #[], none⟩ hS ?_ ?_; rotate_left; focus (intro w; go_simp; try with_reducible rfl))
    try simp only [pna, pnb, pnc, pnd, pne]
    refine wpH_row row_dk 3 (oi := { dst := some 117, op := Op.load 72 (Operand.tmp 2), type := 72, pos := "ref.go:132", after := #[{ on := 5, ground := Ground.gcOnly Departure.lateStores }], guard := none }) rfl (by kernel_rfl) (by kernel_rfl) (by kernel_rfl) (by rfl) hS (vs := dcs ⟨s2, sf2, rm2, fu2, dn2⟩) (fun _ _ _ h => h) (.tmp 2) rfl rfl (rfl) (fun w' hb2 => hN4.mod hb2 (by simp)) ?_
    try simp only [pna, pnb, pnc, pnd, pne]
    refine wpH_load 4 (.agg (stcs (.slice va li.length vc) sp ⟨s2, sf2, rm2, fu2, dn2⟩ false).toArray) (oi := { dst := some 118, op := Op.build 76 #[(0, Operand.tmp 115), (1, Operand.tmp 116), (2, Operand.tmp 117)], type := 76, pos := "ref.go:132", after := #[{ on := 1, ground := Ground.data }, { on := 2, ground := Ground.data }, { on := 3, ground := Ground.data }, { on := 5, ground := Ground.gcOnly Departure.lateStores }], guard := none }) rfl (by kernel_rfl) (by kernel_rfl) (by kernel_rfl) (by rfl) hS (fun _ _ _ h => h) (fun w' hb2 => (by go_simp; try rfl)) ?_
    try simp only [pna, pnb, pnc, pnd, pne]
    refine wpH_op 5 (oi := { dst := none, op := Op.store 72 (Operand.tmp 4) (Operand.tmp 114), type := 0, pos := "ref.go:132", after := #[{ on := 0, ground := Ground.data }, { on := 0, ground := Ground.phase }, { on := 1, ground := Ground.textOnly Departure.lateStores }, { on := 2, ground := Ground.textOnly Departure.lateStores }, { on := 3, ground := Ground.textOnly Departure.lateStores }, { on := 4, ground := Ground.textOnly Departure.lateStores }], guard := none }) rfl (by kernel_rfl) (by rfl) ?_
    refine wp_rowStore row_dk (.tmp 4) (.tmp 114) rfl rfl rfl (vs := dcs ⟨s2, sf2, rm2, fu2, dn2⟩) rfl (dcs_one _) (us := dcs ⟨[], 0, 0, 0, false⟩) rfl K24 ?_
    intro w8 N8 m8
    try have K34 := K34.mod m8 (by simp)
    try have N9 := N9.mod m8 (by simp)
    have hS := hS.trans (m8.sub (by simp))
    refine ⟨hS, ?_⟩
    try simp only [pna, pnb, pnc, pnd, pne]
    refine wpH_op 6 (oi := { dst := none, op := Op.store 76 (Operand.tmp 5) (Operand.tmp 118), type := 0, pos := "ref.go:132", after := #[{ on := 4, ground := Ground.data }, { on := 5, ground := Ground.chain }, { on := 0, ground := Ground.phase }, { on := 1, ground := Ground.phase }, { on := 2, ground := Ground.phase }, { on := 3, ground := Ground.phase }, { on := 4, ground := Ground.phase }, { on := 5, ground := Ground.phase }], guard := none }) rfl (by kernel_rfl) (by rfl) ?_
    refine wp_rowStore row_st (.tmp 5) (.tmp 118) rfl rfl rfl (vs := stcs (.slice va li.length vc) sp ⟨s2, sf2, rm2, fu2, dn2⟩ false) rfl (stcs_one _ _ _ _ _ _) (us := zst) rfl K34 ?_
    intro w9 N9 m9
    try have K24 := K24.mod m9 (by simp)
    try have N8 := N8.mod m9 (by simp)
    have hS := hS.trans (m9.sub (by simp))
    refine ⟨hS, ?_⟩
    try simp only [pna, pnb, pnc, pnd, pne]
    (refine hP 7 ?_ ⟨some 6, .assign (.const (.int .i64 0)), 30, "", #[], none⟩ hS ?_ ?_; rotate_left; focus (intro w; go_simp; try with_reducible rfl))
    try simp only [pna, pnb, pnc, pnd, pne]
    refine wpAnyH_done (by kernel_rfl) ?_ _
    go_wp2_with fail
    refine bodyPost_ret (res_os3 rfl _ _ ⟨s2, sf2, rm2, fu2, dn2⟩ _ _ (stcs (.slice va li.length vc) sp ⟨s2, sf2, rm2, fu2, dn2⟩ false) rfl rfl N8 rfl N9) rfl ?_
    exact ⟨Below.mod hbw hS hbw.size (by simp), fun _ => ⟨_, _, rfl, HIi.out, (hTI.modl hS (by simp)).sub (fun x hx => .inl (by simp [hx]))⟩, fun h => absurd rfl h⟩
 ·obtain rfl := hno hc0
  have g1 : (c != 0) = true := by simpa using hc0
  go_wp2_with (first
   | (refine wpList_rowStore row_dk rfl rfl (.tmp 2) (.tmp 30) rfl rfl rfl (vs := dcs ⟨s2, sf2, rm2, fu2, dn2⟩) rfl (dcs_one _) (us := dcs ⟨s, safe, room, fuse, down⟩) rfl B13 ?_; intro w4 N4 m4; have hb4 := mod_two hb3 m4 (Nat.le_refl _) (by omega); have B24 := B23.mod m4 (by simp); have B34 := B33.mod m4 (by simp); have hs4 := m4.size)
   | (refine wpList_rowLoad row_dk rfl (.tmp 2) rfl rfl (vs := dcs ⟨s2, sf2, rm2, fu2, dn2⟩) rfl N4 ?_)
   | (refine wpList_rowStore row_dk rfl rfl (.tmp 4) (.tmp 35) rfl rfl rfl (vs := dcs ⟨s2, sf2, rm2, fu2, dn2⟩) rfl (dcs_one _) (us := dcs ⟨[], 0, 0, 0, false⟩) rfl B24 ?_; intro w5 N5 m5; have hb5 := mod_two hb4 m5 (by omega) (by omega); have B35 := B34.mod m5 (by simp); have hs5 := m5.size)
   | (refine wpList_rowStore row_st rfl rfl (.tmp 5) (.tmp 36) rfl rfl rfl (vs := zst) rfl (by simp [Value.oneCell']) (us := zst) rfl B35 ?_; intro w6 N6 m6; have hb6 := mod_two hb5 m6 (by omega) (by omega); have N56 := N5.mod m6 (by simp)))
  refine bodyPost_ret (res_os3 rfl _ _ ⟨s2, sf2, rm2, fu2, dn2⟩ _ _ zst rfl rfl N56 rfl N6) rfl ?_
  exact ⟨hb6, fun h => absurd h hc0, fun _ => rfl⟩
end Go.Proofs.YthgjdaomcpinaaaGreatDoor
