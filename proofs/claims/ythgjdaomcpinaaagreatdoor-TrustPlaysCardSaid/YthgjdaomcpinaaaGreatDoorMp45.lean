/- TOpenB, ChgV, ActV, TPs, SpoilZ. -/
import Derived.Test.YthgjdaomcpinaaaGreatDoorMp44
set_option linter.unnecessarySimpa false
set_option linter.unusedSimpArgs false
set_option linter.unusedVariables false
set_option maxRecDepth 100000
set_option maxHeartbeats 32000000
namespace Go.Proofs.YthgjdaomcpinaaaGreatDoor
open Go.RowKit Go.WideMaps Go.Maps Go.Sort Go.Shelf Pl
theorem KT.modl {w w' : World} {l : List Nat} (h : KT w) (hm : Mod l w w') (hn : 1 ∉ l) : KT w' :=
 ⟨fun i hi => (World.cell?_of_block (a := ⟨1, i, none⟩) (hm.block _ h.lt hn)).trans (h.cell i hi), Nat.lt_of_lt_of_le h.lt hm.size⟩
theorem DkV.notK {w : World} {av : List Nat} {p : Nat} {d : Dk} (h : DkV w av p d) (hk : KT w) : p ≠ 1 := by
 intro e
 subst e
 obtain ⟨v, hv, B⟩ := h.row
 have h1 := hk.cell 0 (by omega)
 rw [B.cell 0] at h1
 obtain ⟨a, c, rfl⟩ := hv.form
 simp at h1
def topened (w w' : World) (av : List Nat) (p : Nat) (span : Int) (T : List (Int × Tr)) (r : Dk × Int) (e : Ending) : Prop :=
 Mod [p] w w' ∧ (r.2 = 0 → ∃ j m q, e = .returned (.tuple #[.pointer (some ⟨q, 0, none⟩), .int .i64 0]) ∧ w.heap.size ≤ j ∧ j < m ∧ m < q ∧ Blk w' j #[.pointer (some ⟨p, 0, none⟩), .bool false] ∧ DkV w' (q :: m :: j :: av) p r.1 ∧ TrM w' (q + 1) m T ∧ Blk w' q #[.map (some m), .int .i64 span, .pointer (some ⟨j, 0, none⟩)]) ∧
  (r.2 ≠ 0 → e = .returned (.tuple #[.pointer none, .int .i64 r.2]) ∧ DkV w' av p r.1)
theorem flat_drop (B : List (List Bs)) (i : Nat) (hi : i < B.length) : (B.drop i).flatten = B.getD i [] ++ (B.drop (i + 1)).flatten := by
 rw [List.drop_eq_getElem_cons hi, List.flatten_cons, List.getD_eq_getElem?_getD, List.getElem?_eq_getElem hi]
 rfl
theorem drop_at (b : List Bs) (i : Nat) (hi : i < b.length) : b.drop i = b.getD i [] :: b.drop (i + 1) := by
 rw [List.drop_eq_getElem_cons hi, List.getD_eq_getElem?_getD, List.getElem?_eq_getElem hi]
 rfl
theorem topen_any (av : List Nat) (p : Nat) (d : Dk) (span : Int) (h0 : 1 ≤ span) (h1 : span ≤ 1099511627776) (B : List (List Bs)) (T : List (Int × Tr)) (hsc : ∃ tail, d.s = recsP B ++ tail ∧ nextP tail = none) (hB : ∀ b ∈ B, mayR b = true) (hl : d.s.length ≤ 1048576) (hc : Chgs [] B.flatten T) (hn : B.flatten.length ≤ 100000) (hbl : B.length ≤ 100000) (hf : -9223372036854775807 ≤ d.fuse ∧ d.fuse ≤ 9223372036854775807) (w : World) (hk : KT w) (h : DkV w av p d) :
  Calls Tryz.prog 18 #[.pointer (some ⟨p, 0, none⟩), .int .i64 span] w fun e w' => topened w w' av p span T (openD d (recsP B).length) e := by
 obtain ⟨tail, hs, ht⟩ := hsc
 have hmm := @run_makeMap Tryz.prog
 have q1 := jopen_any av p d B tail hs hB ht hl hf w hk h
 have d0 : decide (span < 1) = false := by simp; omega
 have d1 : decide (1099511627776 < span) = false := by simp; omega
 have hpk := h.notK hk
 obtain ⟨_, _, hx2⟩ := h.row
 have hpl := hx2.lt
 have HC := Lib.hid hc
 have HK := Lib.hid hk
 generalize openD d (recsP B).length = r at *
 obtain ⟨d2, c⟩ := r
 clear hs ht hB hl hf h hx2 hc hk
 go_enter Tryz.func18, Tryz.ntmps18
 go_wp2_with fail
 refine q1.mono ?_
 rintro e w1 ⟨hm, hy, hno⟩
 simp only at hy hno
 by_cases hc0 : c = 0
 ·subst hc0
  obtain ⟨j, v, rfl, hj, hBj, hD, hS⟩ := hy rfl
  obtain ⟨sa, sc, rfl⟩ := hS.form
  have HK1 := Lib.hid (HK.out.modl hm (by intro hx; rw [List.mem_singleton] at hx; exact hpk hx.symm))
  have hown : (w1.alloc (.map #[] 0)).ownsMap (H := Value) Tryz.prog 3 hT w1.heap.size 0 (.map []) := World.ownsMap_made _ _ _ _
  have hbm : Below w1.heap.size w1 (w1.alloc (.map #[] 0)) := (Below.refl _ _).alloc (Nat.le_refl _) _
  have hbm2 := Below.allocS hbm (.cells #[.map (some w1.heap.size), .int .i64 span, .pointer (some ⟨j, 0, none⟩)] 122)
  have hjl := hBj.lt
  have hown2 := hown.alloc (.cells #[.map (some w1.heap.size), .int .i64 span, .pointer (some ⟨j, 0, none⟩)] 122)
  have hq : Blk ((w1.alloc (.map #[] 0)).alloc (.cells #[.map (some w1.heap.size), .int .i64 span, .pointer (some ⟨j, 0, none⟩)] 122)) (w1.heap.size + 1) #[.map (some w1.heap.size), .int .i64 span, .pointer (some ⟨j, 0, none⟩)] := Blk.new' (by simp)
  obtain ⟨w2, hw2⟩ : ∃ w2, w2 = (w1.alloc (.map #[] 0)).alloc (.cells #[.map (some w1.heap.size), .int .i64 span, .pointer (some ⟨j, 0, none⟩)] 122) := ⟨_, rfl⟩
  have hsz2 : w2.heap.size = w1.heap.size + 2 := by rw [hw2]; simp
  obtain ⟨m, hmx⟩ : ∃ m, m = w1.heap.size := ⟨_, rfl⟩
  rw [← hw2] at hown2 hq hbm2
  rw [← hmx] at hown2 hq hsz2 hjl
  have HQ := Lib.hid hq
  have hTM : TrM w2 (m + 2) m [] := TrM.nil hown2
  have HTM := Lib.hid hTM
  have HHW := Lib.hid hw2
  have HHM := Lib.hid hmx
  have hmw1 : w1.heap.size ≤ m := by omega
  have hms := hm.size
  have hs2m : m + 2 ≤ w2.heap.size := by omega
  have HSZ := Lib.hid hsz2
  clear hmx hsz2
  clear q1 hown hown2 hq hTM hw2 hbm hno hy
  go_wp2_with fail
  rw [← HHW.out, ← HHM.out]
  go_loopw [36] (fun s36 wr => ∃ (i : Nat) (Ti : List (Int × Tr)), i ≤ B.length ∧ s36 = .int .i64 i ∧ Hid (TrM wr (m + 2) m Ti) ∧ Hid (Chgs Ti (B.drop i).flatten T) ∧ Hid (Ti.length + (B.drop i).flatten.length ≤ 100000) ∧ Hid (Blk wr (m + 1) #[.map (some m), .int .i64 span, .pointer (some ⟨j, 0, none⟩)]) ∧ Mod [m] w2 wr ∧ Below w1.heap.size w1 wr) (fun s36 _ => B.length - (intOf s36).toNat)
  case atStart => exact ⟨0, [], by omega, rfl, HTM, HC, Lib.hid (by simpa using hn), HQ, Mod.refl _ _, hbm2⟩
  case round =>
   obtain ⟨i, Ti, hi, rfl, HTr, HCr, HLr, HQr, mr, hbr⟩ := hrel
   have hsr := mr.size
   by_cases hlt : i < B.length
   ·have hbd : 0 ≤ (i : Int) ∧ (i : Int) < (B.length : Int) := by omega
    obtain ⟨g, u, e1, hg, c0, hu⟩ := hS.at i hlt
    subst e1
    have c1 := (hbr.cell (p := ⟨g, i, none⟩) hg).trans c0
    clear c0
    have HFD := Lib.hid (flat_drop B i hlt)
    obtain ⟨R, hR⟩ : ∃ R, R = (B.drop (i + 1)).flatten := ⟨_, rfl⟩
    have HR := Lib.hid hR
    rw [← hR] at HFD
    have HCb := Lib.hid (show Chgs Ti (B.getD i [] ++ R) T from by rw [← HFD.out]; exact HCr.out)
    have HLb := Lib.hid (show Ti.length + (B.getD i [] ++ R).length ≤ 100000 from by rw [← HFD.out]; exact HLr.out)
    generalize B.getD i [] = b at *
    obtain ⟨ua, uc, rfl⟩ := hu.form
    have HU := Lib.hid hu.ss
    have hul := hu.ss.small
    clear hR HCr HLr HFD hu
    go_wp2_with fail
    go_loopw [42] (fun s42 wq => ∃ (k : Nat) (Tk : List (Int × Tr)), k ≤ b.length ∧ s42 = .int .i64 k ∧ Hid (TrM wq (m + 2) m Tk) ∧ Hid (Chgs Tk (b.drop k ++ R) T) ∧ Hid (Tk.length + (b.drop k ++ R).length ≤ 100000) ∧ Hid (Blk wq (m + 1) #[.map (some m), .int .i64 span, .pointer (some ⟨j, 0, none⟩)]) ∧ Mod [m] w2 wq ∧ Below w1.heap.size w1 wq ∧ Mod [m] wr wq) (fun s42 _ => b.length - (intOf s42).toNat)
    case atStart => exact ⟨0, Ti, by omega, rfl, HTr, HCb, HLb, HQr, mr, hbr, Mod.refl _ _⟩
    case round =>
     clear HTr HCb HLb HQr
     obtain ⟨k, Tk, hk, rfl, HTk, HCk, HLk, HQk, mk, hbk, mrk⟩ := hrel
     obtain ⟨wq, hnm⟩ := Below.name hbk
     subst hnm
     have hsk := mk.size
     by_cases hlk : k < b.length
     ·have hbd2 : 0 ≤ (k : Int) ∧ (k : Int) < (b.length : Int) := by omega
      obtain ⟨g2, off2, e2, hg2, c2⟩ := (HU.out.keep hbk).at' k hlk
      subst e2
      have hCk := HCk.out
      have hLk := HLk.out
      rw [drop_at b k hlk] at hCk hLk
      rw [List.cons_append, List.length_cons] at hLk
      obtain ⟨T1, hg, hCn⟩ := Chgs.head (show Chgs Tk (b.getD k [] :: (b.drop (k + 1) ++ R)) T from hCk)
      have hT1 := hg.len
      have HCn := Lib.hid hCn
      have HLn := Lib.hid (show T1.length + (b.drop (k + 1) ++ R).length ≤ 100000 from by omega)
      have hkt : KT wq := HK1.out.keep hbk
      generalize b.getD k [] = s at *
      have qc : Calls Tryz.prog 69 #[.pointer (some ⟨m + 1, 0, none⟩), .string ⟨List.toArray s⟩] wq fun e w' => e = .returned (.bool true) ∧ TrM w' (m + 2) m T1 ∧ Blk w' (m + 1) #[.map (some m), .int .i64 span, .pointer (some ⟨j, 0, none⟩)] ∧ Mod [m] wq w' := by
       cases hg with
       | come t hf hh => exact tchange_come (m + 2) (m + 1) m span (.pointer (some ⟨j, 0, none⟩)) Tk t (by omega) hf (by omega) wq hkt HTk.out (by omega) (by omega) HQk.out
       | goes x hx hin => exact tchange_goes (m + 2) (m + 1) m span (.pointer (some ⟨j, 0, none⟩)) Tk x (by omega) hx hin wq HTk.out (by omega) HQk.out
      clear hCk hLk hCn hg hT1 HCk HLk hkt
      go_wp2_with fail
      refine qc.mono ?_
      rintro e w5 ⟨rfl, hM5, hB5, m5⟩
      clear qc
      go_wp2_with fail
      exact ⟨⟨k + 1, T1, by omega, by go_num, Lib.hid hM5, HCn, HLn, Lib.hid hB5, mk.trans m5, Below.mod hbk m5 (by omega) (by simp; omega), mrk.trans m5⟩, by simp [intOf]; omega⟩
     ·have hkl : k = b.length := by omega
      subst hkl
      have hCk := HCk.out
      have hLk := HLk.out
      rw [List.drop_length, List.nil_append] at hCk hLk
      rw [HR.out] at hCk hLk
      have HCn := Lib.hid hCk
      have HLn := Lib.hid hLk
      clear hCk hLk HCk HLk
      go_wp2_with fail
      exact ⟨⟨i + 1, Tk, by omega, by go_num, HTk, HCn, HLn, HQk, mk, hbk⟩, by simp [intOf]; omega⟩
   ·have hil : i = B.length := by omega
    subst hil
    have hC0 := HCr.out
    rw [List.drop_length] at hC0
    obtain rfl := hC0.none
    have hBj2 := hBj.keep hbr
    have hD2 := ((hD.more (x := m) (by have := HHM.out; omega)).more (x := m + 1) (by have := HHM.out; omega)).keep hbr
    have hmt := hm.trans (Mod.of_below (l := [p]) hbr)
    clear HC HCr HTM HQ
    go_wp2_with fail
    all_goals (go_ret2; exact ⟨hmt, fun _ => ⟨j, m, m + 1, rfl, hj, by omega, by omega, hBj2, hD2, HTr.out, HQr.out⟩, fun h => absurd rfl h⟩)
 ·obtain ⟨rfl, hD⟩ := hno hc0
  have g1 : (c != 0) = true := by simpa using hc0
  clear q1 hy hno
  go_wp2_with fail
  all_goals (go_ret2; exact ⟨hm, fun h => absurd h hc0, fun _ => ⟨rfl, hD⟩⟩)
end Go.Proofs.YthgjdaomcpinaaaGreatDoor
namespace Go.Proofs.YthgjdaomcpinaaaGreatDoor
open Go.ChangeShapes Go.WideShapes Go.ChangeAt Go.RowKit Pl
def InB (l : List Int) : Prop := ∀ k ∈ l, -9223372036854775808 ≤ k ∧ k ≤ 9223372036854775807
theorem is_valB {W : World} {v : Value} (h : Sh.Val W (.slice 1 (.int .i64)) v) : ∃ l : List Int, IS W v l ∧ InB l := by
 rcases (show _ ∨ _ from h) with h | ⟨a, len, cap, hv, hlc, hcm, hel⟩
 ·obtain rfl : v = .slice none 0 0 := by simpa using h
  exact ⟨[], ⟨none, 0, rfl, Nat.le_refl _, by unfold maxLen; omega, fun h => absurd rfl h⟩, fun k hk => by cases hk⟩
 ·obtain rfl : v = .slice (some a) len cap := by simpa using hv
  rcases Nat.eq_zero_or_pos len with h0 | hpos
  ·subst h0
   exact ⟨[], ⟨some a, cap, rfl, hlc, hcm, fun h => absurd rfl h⟩, fun k hk => by cases hk⟩
  ·obtain ⟨hs, hc⟩ := slice_cells (by decide) hpos hel
   have hf : ∀ i, ∃ x : Int, (i < len → W.cell? ⟨a.block, a.off + i, none⟩ = some (.int .i64 x)) ∧ -9223372036854775808 ≤ x ∧ x ≤ 9223372036854775807 := by
    intro i
    by_cases hi : i < len
    ·obtain ⟨cs, ⟨n, rfl, hw⟩, _, hj⟩ := hc i hi
     have h0 := hj 0 (by decide)
     exact ⟨n, fun _ => by simpa using h0, wf_i64 hw⟩
    ·exact ⟨0, fun h => absurd h hi, by omega, by omega⟩
   obtain ⟨f, hf⟩ := Classical.axiomOfChoice hf
   obtain ⟨b, off, sp⟩ := a
   simp only at hs
   subst hs
   have hg : ∀ i, i < len → ((List.range len).map f).getD i 0 = f i := fun i hi' => by simp [List.getD, hi']
   refine ⟨(List.range len).map f, ⟨some ⟨b, off, none⟩, cap, by simp, by simpa using hlc, hcm, fun _ => ⟨b, off, rfl, cell_lt ((hf 0).1 hpos), fun i hi => ?_⟩⟩, fun k hk => ?_⟩
   ·have hi' : i < len := by simpa using hi
    rw [hg i hi']
    exact (hf i).1 hi'
   ·obtain ⟨i, _, rfl⟩ := List.mem_map.1 hk
    exact (hf i).2
theorem one_of {w : World} {s : Sh} {cs : List Value} (h : s.Ok w cs) (h1 : s.cells = 1) : ∃ v, cs = [v] := by
 have := h.len
 rw [h1] at this
 exact List.length_eq_one_iff.1 this
end Go.Proofs.YthgjdaomcpinaaaGreatDoor
namespace Go.Proofs.YthgjdaomcpinaaaGreatDoor
open Go.ChangeShapes Go.WideShapes Go.ChangeAt Go.RowKit Pl
structure ActP where
 kind : Int
 n : Int
 l : List Tr
 hs : List Int
def I64 (n : Int) : Prop := -9223372036854775808 ≤ n ∧ n ≤ 9223372036854775807
abbrev trSh : Sh := .pair (.pair (.int .i64) (.pair (.int .i64) (.pair (.int .i64) (.pair .bool (.pair .str (.pair .str (.pair .str (.pair .str (.pair .str (.pair .str (.pair (.slice 1 .str) .unit))))))))))) (.pair (.slice 2 (.pair .str (.pair (.int .i64) .unit))) (.pair (.int .i64) .unit))
theorem trSh_ok {W : World} {cs : List Value} (h : trSh.Ok W cs) : ∃ (t : Tr) (sk ms : Value), cs = tcs t sk ms ∧ SS W sk t.head.skips ∧ MS W ms t.set := by
 obtain ⟨x0, y0, rfl, ⟨x1, y1, rfl, ⟨n1, rfl, _⟩, x2, y2, rfl, ⟨n2, rfl, _⟩, x3, y3, rfl, ⟨n3, rfl, _⟩, x4, y4, rfl, ⟨b, rfl⟩, x5, y5, rfl, ⟨s1, rfl, _⟩, x6, y6, rfl, ⟨s2, rfl, _⟩, x7, y7, rfl, ⟨s3, rfl, _⟩, x8, y8, rfl, ⟨s4, rfl, _⟩, x9, y9, rfl, ⟨s5, rfl, _⟩, x10, y10, rfl, ⟨s6, rfl, _⟩, x11, y11, rfl, hz1, hu1⟩, x12, y12, rfl, hz2, x13, y13, rfl, ⟨n4, rfl, _⟩, hu2⟩ := h
 obtain rfl : y11 = [] := hu1
 obtain rfl : y13 = [] := hu2
 obtain ⟨v1, rfl, hv1⟩ : ∃ v', x11 = [v'] ∧ Sh.Val W (.slice 1 .str) v' := by
  rcases hz1 with rfl | ⟨a, len, cap, rfl, hr⟩
  ·exact ⟨_, rfl, .inl rfl⟩
  ·exact ⟨_, rfl, .inr ⟨a, len, cap, rfl, hr⟩⟩
 obtain ⟨v2, rfl, hv2⟩ : ∃ v', x12 = [v'] ∧ Sh.Val W (.slice 2 (.pair .str (.pair (.int .i64) .unit))) v' := by
  rcases hz2 with rfl | ⟨a, len, cap, rfl, hr⟩
  ·exact ⟨_, rfl, .inl rfl⟩
  ·exact ⟨_, rfl, .inr ⟨a, len, cap, rfl, hr⟩⟩
 obtain ⟨K, hK, _⟩ := ss_val hv1
 obtain ⟨L, hL⟩ := ms_val hv2
 refine ⟨⟨⟨n1, n2, n3, b, s1.data.toList, s2.data.toList, s3.data.toList, s4.data.toList, s5.data.toList, s6.data.toList, K⟩, L, n4⟩, v1, v2, ?_, hK, hL⟩
 unfold tcs
 simp only [← str_list]
 rfl
theorem tl_val {W : World} {v : Value} (h : Sh.Val W (.slice 13 trSh) v) : ∃ l : List Tr, TL W v l := by
 rcases (show _ ∨ _ from h) with h | ⟨a, len, cap, hv, hlc, hcm, hel⟩
 ·obtain rfl : v = .slice none 0 0 := by simpa using h
  exact ⟨[], none, 0, rfl, Nat.le_refl _, by unfold maxLen; omega, fun h => absurd rfl h⟩
 ·obtain rfl : v = .slice (some a) len cap := by simpa using hv
  rcases Nat.eq_zero_or_pos len with h0 | hpos
  ·subst h0
   exact ⟨[], some a, cap, rfl, hlc, hcm, fun h => absurd rfl h⟩
  ·obtain ⟨hs, hc⟩ := slice_cells (by decide) hpos hel
   have hf : ∀ i, ∃ t : Tr, i < len → ∃ sk ms, (∀ j, j < 13 → W.cell? ⟨a.block, a.off + i * 13 + j, none⟩ = (tcs t sk ms)[j]?) ∧ SS W sk t.head.skips ∧ MS W ms t.set := by
    intro i
    by_cases hi : i < len
    ·obtain ⟨cs, hok, _, hj⟩ := hc i hi
     obtain ⟨t, sk, ms, rfl, h1, h2⟩ := trSh_ok hok
     exact ⟨t, fun _ => ⟨sk, ms, hj, h1, h2⟩⟩
    ·exact ⟨trZ, fun h => absurd h hi⟩
   obtain ⟨f, hf⟩ := Classical.axiomOfChoice hf
   obtain ⟨b, off, sp⟩ := a
   simp only at hs
   subst hs
   refine ⟨(List.range len).map f, some ⟨b, off, none⟩, cap, by simp, by simpa using hlc, hcm, fun _ => ⟨b, off, rfl, ?_, fun i x hi => ?_⟩⟩
   ·obtain ⟨sk, ms, hh, _⟩ := hf 0 hpos
    have := hh 0 (by omega)
    exact cell_lt this
   ·have hi' : i < len := by have := (List.getElem?_eq_some_iff.1 hi).1; simpa using this
    have hx : x = f i := by
     rw [List.getElem?_map, List.getElem?_range hi'] at hi
     simpa using hi.symm
    subst hx
    obtain ⟨sk, ms, hh, h1, h2⟩ := hf i hi'
    refine ⟨sk, ms, fun j u hj => ?_, h1, h2, trivial, trivial⟩
    have hj13 : j < 13 := by have := (List.getElem?_eq_some_iff.1 hj).1; simpa [tcs] using this
    rw [hh j hj13]
    exact hj
def ASrc (w : World) (g o : Nat) (l : List ActP) : Prop := ∀ i x, l[i]? = some x → ∃ vl vh, w.rangeAt g (o + i * 4) [.int .i64 x.kind, .int .i64 x.n, vl, vh] ∧ TL w vl x.l ∧ IS w vh x.hs ∧ InB x.hs ∧ I64 x.n
def AS (w : World) (v : Value) (l : List ActP) : Prop :=
 ∃ a cap, v = .slice a l.length cap ∧ l.length ≤ cap ∧ cap ≤ maxLen ∧ (l ≠ [] → ∃ g off, a = some ⟨g, off, none⟩ ∧ g < w.heap.size ∧ ASrc w g off l)
theorem AS.form {w : World} {v : Value} {l : List ActP} (h : AS w v l) : ∃ a c, v = .slice a l.length c := by
 obtain ⟨a, c, e, _⟩ := h
 exact ⟨a, c, e⟩
theorem AS.small {w : World} {v : Value} {l : List ActP} (h : AS w v l) : l.length ≤ 9223372036854775807 := by
 obtain ⟨a, c, e, h1, h2, _⟩ := h
 unfold maxLen at h2
 omega
theorem AS.at {w : World} {a : Option Addr} {c : Nat} {l : List ActP} (h : AS w (.slice a l.length c) l) (i : Nat) (x : ActP) (hi : l[i]? = some x) :
  ∃ g off vl vh, a = some ⟨g, off, none⟩ ∧ g < w.heap.size ∧ w.rangeAt g (off + i * 4) [.int .i64 x.kind, .int .i64 x.n, vl, vh] ∧ TL w vl x.l ∧ IS w vh x.hs ∧ InB x.hs ∧ I64 x.n := by
 obtain ⟨a', c', e, h1, h2, h4⟩ := h
 injection e with e _ _
 subst e
 obtain ⟨g, off, e, hg, hs⟩ := h4 (by intro e; subst e; simp at hi)
 obtain ⟨vl, vh, r⟩ := hs i x hi
 exact ⟨g, off, vl, vh, e, hg, r⟩
theorem as_val {W : World} {v : Value} (h : Sh.Val W (.slice 4 (.pair (.int .i64) (.pair (.int .i64) (.pair (.slice 13 trSh) (.pair (.slice 1 (.int .i64)) .unit))))) v) : ∃ l : List ActP, AS W v l := by
 rcases (show _ ∨ _ from h) with h | ⟨a, len, cap, hv, hlc, hcm, hel⟩
 ·obtain rfl : v = .slice none 0 0 := by simpa using h
  exact ⟨[], none, 0, rfl, Nat.le_refl _, by unfold maxLen; omega, fun h => absurd rfl h⟩
 ·obtain rfl : v = .slice (some a) len cap := by simpa using hv
  rcases Nat.eq_zero_or_pos len with h0 | hpos
  ·subst h0
   exact ⟨[], some a, cap, rfl, hlc, hcm, fun h => absurd rfl h⟩
  ·obtain ⟨hs, hc⟩ := slice_cells (by decide) hpos hel
   have hf : ∀ i, ∃ x : ActP, i < len → ∃ vl vh, (∀ j, j < 4 → W.cell? ⟨a.block, a.off + i * 4 + j, none⟩ = ([.int .i64 x.kind, .int .i64 x.n, vl, vh] : List Value)[j]?) ∧ TL W vl x.l ∧ IS W vh x.hs ∧ InB x.hs ∧ I64 x.n := by
    intro i
    by_cases hi : i < len
    ·obtain ⟨cs, ⟨x1, y1, rfl, ⟨n1, rfl, _⟩, x2, y2, rfl, ⟨n2, rfl, hn2⟩, x3, y3, rfl, hz1, x4, y4, rfl, hz2, hu⟩, _, hj⟩ := hc i hi
     obtain rfl : y4 = [] := hu
     obtain ⟨vl, rfl⟩ := one_of hz1 rfl
     obtain ⟨vh, rfl⟩ := one_of hz2 rfl
     obtain ⟨ll, hll⟩ := tl_val (v := vl) hz1
     obtain ⟨lh, hlh, hb⟩ := is_valB (v := vh) hz2
     exact ⟨⟨n1, n2, ll, lh⟩, fun _ => ⟨vl, vh, hj, hll, hlh, hb, wf_i64 hn2⟩⟩
    ·exact ⟨⟨0, 0, [], []⟩, fun h => absurd h hi⟩
   obtain ⟨f, hf⟩ := Classical.axiomOfChoice hf
   obtain ⟨b, off, sp⟩ := a
   simp only at hs
   subst hs
   refine ⟨(List.range len).map f, some ⟨b, off, none⟩, cap, by simp, by simpa using hlc, hcm, fun _ => ⟨b, off, rfl, ?_, fun i x hi => ?_⟩⟩
   ·obtain ⟨_, _, hh, _⟩ := hf 0 hpos
    exact cell_lt (hh 0 (by omega))
   ·have hi' : i < len := by have := (List.getElem?_eq_some_iff.1 hi).1; simpa using this
    have hx : x = f i := by
     rw [List.getElem?_map, List.getElem?_range hi'] at hi
     simpa using hi.symm
    subst hx
    obtain ⟨vl, vh, hh, r⟩ := hf i hi'
    refine ⟨vl, vh, fun j u hj => ?_, r⟩
    have hj4 : j < 4 := by have := (List.getElem?_eq_some_iff.1 hj).1; simpa using this
    rw [hh j hj4]
    exact hj
end Go.Proofs.YthgjdaomcpinaaaGreatDoor
namespace Go.Proofs.YthgjdaomcpinaaaGreatDoor
open Go.RowKit Go.WideMaps Go.Maps Go.Sort Go.Shelf Pl
structure PP (w : World) (n0 p X q j m base : Nat) (av : List Nat) (d : Dk) (br : Bool) (T : List (Int × Tr)) : Prop where
 dk : DkV w av p d
 bj : Blk w j #[.pointer (some ⟨p, 0, none⟩), .bool br]
 bq : Blk w q #[.map (some m), .int .i64 10, .pointer (some ⟨j, 0, none⟩)]
 tm : TrM w base m T
 pj : p ≠ j
 pq : p ≠ q
 qj : q ≠ j
 xp : X ≠ p ∧ X ≠ q ∧ X ≠ j
 ina : j ∈ av ∧ q ∈ av ∧ X ∈ av
 avl : ∀ x ∈ av, x < w.heap.size
 bs : p < base ∧ j < base ∧ q < base ∧ X < base ∧ base ≤ w.heap.size
 lo : n0 ≤ p ∧ n0 ≤ j ∧ n0 ≤ q ∧ n0 ≤ X
structure RP (w : World) (X q j p : Nat) (lv : Value) (d : Dk) (br : Bool) (l : List Tr) : Prop where
 bx : Blk w X (stcs lv 10 d br).toArray
 tl : TLA w [X, q, j, p] lv l
section
variable {w w' : World} {n0 p X q j m base : Nat} {av : List Nat} {d : Dk} {br : Bool} {T : List (Int × Tr)} {lv : Value} {l : List Tr}
theorem PP.keep (h : PP w n0 p X q j m base av d br T) (hb : Below w.heap.size w w') : PP w' n0 p X q j m base av d br T :=
 ⟨h.dk.keep hb, h.bj.keep hb, h.bq.keep hb, h.tm.keep hb, h.pj, h.pq, h.qj, h.xp, h.ina, fun x hx => Nat.lt_of_lt_of_le (h.avl x hx) hb.size, ⟨h.bs.1, h.bs.2.1, h.bs.2.2.1, h.bs.2.2.2.1, Nat.le_trans h.bs.2.2.2.2 hb.size⟩, h.lo⟩
theorem PP.modX (h : PP w n0 p X q j m base av d br T) (hx : ∃ cs : Array Value, Blk w X cs ∧ cs[0]?.isSome = true) (hm : Mod [X] w w') : PP w' n0 p X q j m base av d br T := by
 obtain ⟨cs, hB, hc⟩ := hx
 obtain ⟨es, c, hbl⟩ := h.tm.block
 have hmx := hB.notmap hc hbl
 obtain ⟨x1, x2, x3⟩ := h.xp
 exact ⟨h.dk.modl hm (by intro x hx; rw [List.mem_singleton] at hx; rw [hx]; exact h.ina.2.2) (by simp; exact fun e => x1 e.symm), h.bj.mod hm (by simp; exact fun e => x3 e.symm), h.bq.mod hm (by simp; exact fun e => x2 e.symm), h.tm.modl hm (by intro x hx; rw [List.mem_singleton] at hx; rw [hx]; exact h.bs.2.2.2.1) (by simp; exact hmx), h.pj, h.pq, h.qj, h.xp, h.ina, fun x hx => Nat.lt_of_lt_of_le (h.avl x hx) hm.size, ⟨h.bs.1, h.bs.2.1, h.bs.2.2.1, h.bs.2.2.2.1, Nat.le_trans h.bs.2.2.2.2 hm.size⟩, h.lo⟩
theorem RP.keep (h : RP w X q j p lv d br l) (hb : Below w.heap.size w w') : RP w' X q j p lv d br l := ⟨h.bx.keep hb, h.tl.keep hb⟩
theorem RP.modP (h : RP w X q j p lv d br l) (hx : X ≠ p ∧ X ≠ q ∧ X ≠ j) (hm : Mod [p, j, q] w w') : RP w' X q j p lv d br l :=
 ⟨h.bx.mod hm (by simp; omega), h.tl.modl hm (by intro x hx; simp at hx ⊢; omega)⟩
theorem RP.some (h : RP w X q j p lv d br l) : ∃ cs : Array Value, Blk w X cs ∧ cs[0]?.isSome = true := ⟨_, h.bx, rfl⟩
theorem PP.below (h : PP w n0 p X q j m base av d br T) {w0 : World} (hb : Below n0 w0 w) (hn : n0 ≤ w0.heap.size) (hm : Mod [p, j, q] w w') : Below n0 w0 w' :=
 Below.mod hb hm (by exact Nat.le_trans hn hb.size) (by intro x hx; simp at hx; have := h.lo; omega)
theorem PP.add (h : PP w n0 p X q j m base av d br T) {n : Nat} (ho : Hold d br T n) (hn : n ≤ 40) (hk : KT w) (v : Value) (ts : List Tr) (hts : ts.length ≤ 6) (hv : TL w v ts) :
  Calls Tryz.prog 24 #[.pointer (some ⟨q, 0, none⟩), v] w fun e w' => ∃ m', e = .returned (.int .i64 ((addS d br T ts).2.2.1)) ∧ PP w' n0 p X q j m' base av (addS d br T ts).1 (addS d br T ts).2.2.2 (addS d br T ts).2.1 ∧ Mod [p, j, q] w w' := by
 have hT := ho.tlen
 have hf := ho.fuse
 have hr := ho.room
 have hl := ho.len
 obtain ⟨s1, s2, s3, s4, s5⟩ := h.bs
 refine (tadds_any av base p j q m 10 d br T v ts (by omega) (by omega) (fun ha => batch_may ha (by omega)) (by omega) (by omega) (by omega) w hk h.dk h.bj h.pj h.ina.1 h.ina.2.1 h.avl s1 s2 s3 h.pq h.qj s5 h.bq h.tm hv).mono ?_
 rintro e w' ⟨m', he, g1, g2, g3, g4, g5⟩
 exact ⟨m', he, ⟨g3, g4, g1, g2, h.pj, h.pq, h.qj, h.xp, h.ina, fun x hx => Nat.lt_of_lt_of_le (h.avl x hx) g5.size, ⟨s1, s2, s3, s4, Nat.le_trans s5 g5.size⟩, h.lo⟩, g5⟩
theorem PP.drop (h : PP w n0 p X q j m base av d br T) {n : Nat} (ho : Hold d br T n) (hn : n ≤ 40) (hk : KT w) (v : Value) (hs : List Int) (hts : hs.length ≤ 20) (hB : InB hs) (hv : IS w v hs) :
  Calls Tryz.prog 25 #[.pointer (some ⟨q, 0, none⟩), v] w fun e w' => ∃ m', e = .returned (.int .i64 ((dropS d br T hs).2.2.1)) ∧ PP w' n0 p X q j m' base av (dropS d br T hs).1 (dropS d br T hs).2.2.2 (dropS d br T hs).2.1 ∧ Mod [p, j, q] w w' := by
 have hT := ho.tlen
 have hf := ho.fuse
 have hr := ho.room
 have hl := ho.len
 have hkb := ho.good.keyB
 obtain ⟨s1, s2, s3, s4, s5⟩ := h.bs
 refine (tdrops_any av base p j q m 10 d br T v hs (by omega) (by omega) (goes_may hs (by omega)) (by omega) (by omega) (by omega) (fun k hk => by have := hkb k hk; omega) hB w hk h.dk h.bj h.pj h.ina.1 h.ina.2.1 h.avl s1 s2 s3 h.pq h.qj s5 h.bq h.tm hv).mono ?_
 rintro e w' ⟨m', he, g1, g2, g3, g4, g5⟩
 exact ⟨m', he, ⟨g3, g4, g1, g2, h.pj, h.pq, h.qj, h.xp, h.ina, fun x hx => Nat.lt_of_lt_of_le (h.avl x hx) g5.size, ⟨s1, s2, s3, s4, Nat.le_trans s5 g5.size⟩, h.lo⟩, g5⟩
theorem gone_len (T : List (Int × Tr)) (sp now most : Int) : (goneG T sp now most).length ≤ T.length := by
 have key : ∀ (l : List Int) (i : Nat) (g : List Int), (trimG T sp now most i g l).length ≤ g.length + l.length := by
  intro l
  induction l with
  | nil => intro i g; exact Nat.le_refl _
  | cons k r ih =>
   intro i g
   rw [trimG_cons]
   have := ih (i + 1) (if 0 < i ∧ ¬ (freshK T sp now k = true ∧ (i : Int) - (g.length : Int) < most) then g ++ [k] else g)
   split at this
   ·rename_i hc
    rw [if_pos hc]
    rw [List.length_append] at this
    simp only [List.length_cons, List.length_nil] at this ⊢
    omega
   ·rename_i hc
    rw [if_neg hc]
    simp only [List.length_cons]
    omega
 have h := key (sortZ (hts T)).reverse 0 []
 unfold goneG
 rw [List.length_reverse]
 rw [List.length_reverse, sortZ_len, List.length_nil, Nat.zero_add] at h
 unfold hts at h
 rw [List.length_map] at h
 exact h
theorem PP.trim (h : PP w n0 p X q j m base av d br T) {n : Nat} (ho : Hold d br T n) (hn : n ≤ 40) (hk : KT w) (most now : Int) (hmo : 1 ≤ most ∧ most ≤ 9223372036854775807) (hnow : -9223372036854775808 ≤ now ∧ now ≤ 9223372036854775807) :
  Calls Tryz.prog 30 #[.pointer (some ⟨q, 0, none⟩), .int .i64 most, .int .i64 now] w fun e w' => ∃ m', e = .returned (.tuple #[.int .i64 (trimN (dropS d br T (goneG T 10 now most)).2.2.1 (goneG T 10 now most).length), .int .i64 ((dropS d br T (goneG T 10 now most)).2.2.1)]) ∧ PP w' n0 p X q j m' base av (dropS d br T (goneG T 10 now most)).1 (dropS d br T (goneG T 10 now most)).2.2.2 (dropS d br T (goneG T 10 now most)).2.1 ∧ Mod [p, j, q] w w' := by
 have hT := ho.tlen
 have hf := ho.fuse
 have hr := ho.room
 have hl := ho.len
 have hkb := ho.good.keyB
 have hgl := gone_len T 10 now most
 obtain ⟨s1, s2, s3, s4, s5⟩ := h.bs
 refine (ttrims_any av base p j q m 10 most now d br T hmo hnow (by omega) (by omega) ho.good.sm (goes_may _ (by omega)) (by omega) (by omega) (by omega) (fun k hk => by have := hkb k hk; omega) w hk h.dk h.bj h.pj h.ina.1 h.ina.2.1 h.avl s1 s2 s3 h.pq h.qj s5 h.bq h.tm).mono ?_
 rintro e w' ⟨m', he, g1, g2, g3, g4, g5⟩
 exact ⟨m', he, ⟨g3, g4, g1, g2, h.pj, h.pq, h.qj, h.xp, h.ina, fun x hx => Nat.lt_of_lt_of_le (h.avl x hx) g5.size, ⟨s1, s2, s3, s4, Nat.le_trans s5 g5.size⟩, h.lo⟩, g5⟩
theorem PP.disk (h : PP w n0 p X q j m base av d br T) {d' : Dk} (hd : DkV w' av p d') (hm : Mod [p] w w') : PP w' n0 p X q j m base av d' br T := by
 obtain ⟨s1, s2, s3, s4, s5⟩ := h.bs
 obtain ⟨es, c, hbl⟩ := h.tm.block
 obtain ⟨vx, _, hx2⟩ := h.dk.row
 have hmp := hx2.notmap rfl hbl
 exact ⟨hd, h.bj.mod hm (by simp; exact fun e => h.pj e.symm), h.bq.mod hm (by simp; exact fun e => h.pq e.symm), h.tm.modl hm (by intro x hx; rw [List.mem_singleton] at hx; rw [hx]; exact s1) (by simp; exact hmp), h.pj, h.pq, h.qj, h.xp, h.ina, fun x hx => Nat.lt_of_lt_of_le (h.avl x hx) hm.size, ⟨s1, s2, s3, s4, Nat.le_trans s5 hm.size⟩, h.lo⟩
theorem PP.fuse (h : PP w n0 p X q j m base av d br T) (n : Int) :
  Calls Tryz.prog 19 #[.pointer (some ⟨p, 0, none⟩), .int .i64 n] w fun e w' => e = .returned (.tuple #[]) ∧ PP w' n0 p X q j m base av (fuseD d n) br T ∧ Mod [p, j, q] w w' := by
 refine (dfuse_any av p d n w h.dk).mono ?_
 rintro e w' ⟨rfl, h1, h2⟩
 exact ⟨rfl, h.disk h1 h2, h2.sub (by simp)⟩
theorem PP.crash (h : PP w n0 p X q j m base av d br T) {n : Nat} (ho : Hold d br T n) (keep : Int) :
  Calls Tryz.prog 26 #[.pointer (some ⟨p, 0, none⟩), .int .i64 keep] w fun e w' => e = .returned (.tuple #[]) ∧ PP w' n0 p X q j m base av (crashD d keep) br T ∧ Mod [p, j, q] w w' := by
 have hl := ho.len
 refine (dcrash_any av p d keep ho.safe (by omega) w h.dk).mono ?_
 rintro e w' ⟨rfl, h1, h2⟩
 exact ⟨rfl, h.disk h1 h2, h2.sub (by simp)⟩
def POpen (w w' : World) (n0 p X q j m base : Nat) (av : List Nat) (br : Bool) (T T' : List (Int × Tr)) (r : Dk × Int) (e : Ending) : Prop :=
 Mod [p, j, q] w w' ∧ (r.2 = 0 → ∃ q' j' m' base' av', e = .returned (.tuple #[.pointer (some ⟨q', 0, none⟩), .int .i64 0]) ∧ w.heap.size ≤ q' ∧ w.heap.size ≤ j' ∧ PP w' n0 p X q' j' m' base' av' r.1 false T') ∧
  (r.2 ≠ 0 → e = .returned (.tuple #[.pointer none, .int .i64 r.2]) ∧ PP w' n0 p X q j m base av r.1 br T)
theorem PP.open (h : PP w n0 p X q j m base av d br T) {B : List (List Bs)} {T' : List (Int × Tr)} {n : Nat} (hs : Scn d B T' n) (hn : n ≤ 40) (hl : d.s.length ≤ 5000) (hf : -1 ≤ d.fuse ∧ d.fuse ≤ 9223372036854775807) (hn0 : n0 ≤ w.heap.size) (hk : KT w) :
  Calls Tryz.prog 18 #[.pointer (some ⟨p, 0, none⟩), .int .i64 10] w fun e w' => POpen w w' n0 p X q j m base av br T T' (openD d (recsP B).length) e := by
 obtain ⟨tail, e1, e2⟩ := hs.sc
 have hc := hs.cnt
 have hb := hs.bl
 obtain ⟨s1, s2, s3, s4, s5⟩ := h.bs
 obtain ⟨l1, l2, l3, l4⟩ := h.lo
 refine (topen_any av p d 10 (by omega) (by omega) B T' ⟨tail, e1, e2.none⟩ (fun b hb => (hs.may b hb).1) (by omega) hs.ch (by omega) (by omega) (by omega) w hk h.dk).mono ?_
 rintro e w' ⟨hm, hy, hno⟩
 refine ⟨hm.sub (by simp), fun h0 => ?_, fun h0 => ?_⟩
 ·obtain ⟨j', m', q', rfl, k1, k2, k3, g1, g2, g3, g4⟩ := hy h0
  have hql := g4.lt
  refine ⟨q', j', m', q' + 1, q' :: m' :: j' :: av, rfl, by omega, by omega, g2, g1, g4, g3, by omega, by omega, by omega, ⟨h.xp.1, by omega, by omega⟩, ⟨by simp, by simp, by simp [h.ina.2.2]⟩, ?_, ⟨by omega, by omega, by omega, by omega, by omega⟩, ⟨l1, by omega, by omega, l4⟩⟩
  intro x hx
  simp only [List.mem_cons] at hx
  rcases hx with rfl | rfl | rfl | hx
  ·exact hql
  ·omega
  ·omega
  ·exact Nat.lt_of_lt_of_le (h.avl x hx) hm.size
 ·obtain ⟨rfl, g1⟩ := hno h0
  exact ⟨rfl, h.disk g1 hm⟩
end
section
variable {P : Program} {T : TypeId} {n : Nat} {op : Oper} {a : Act} {w : World} {K : Act → World → Prop} {Q : Exit → Act → World → Prop}
theorem wp_rowLoadA (hT : RowT P T n) (x : Operand) (ho : op.op = .load T x) {b off : Nat} (hx : a.eval x = .pointer (some ⟨b, off, none⟩)) {vs : List Value} (hl : vs.length = n) (hB : w.rangeAt b off vs)
  (h : K (a.put op.dst (.agg vs.toArray)) w) : op.wp P a w K Q := by
 obtain ⟨⟨d, h1, h2⟩, h3⟩ := hT
 exact wp_load_mid T x ho b off hx vs d hB h1 h2 (by rw [hl]; exact h3) h
theorem wp_rowStoreA (hT : RowT P T n) (x y : Operand) (ho : op.op = .store T x y) {b off : Nat} (hx : a.eval x = .pointer (some ⟨b, off, none⟩)) {vs : List Value} (hy : a.eval y = .agg vs.toArray) (hl : vs.length = n) (h1 : ∀ v ∈ vs, v.oneCell' = true)
  {us : List Value} (hof : off + n ≤ us.length) (hB : Blk w b us.toArray)
  (h : ∀ w', Blk w' b (us.take off ++ vs ++ us.drop (off + n)).toArray → Mod [b] w w' → K (a.put op.dst undef) w') : op.wp P a w K Q := by
 obtain ⟨_, h3⟩ := hT
 have ht : w.there b off vs.length := fun j hj => by
  rw [hB.cell, hB.froz]
  simp; omega
 refine wp_store_mid T x y ho b off _ hx hy (by simpa using ht) (by simp [hl, h3]) (all_oneCell_toArray h1) ?_
 refine h _ ⟨fun o => ?_, fun o => by rw [World.frozen?_setCells]; exact hB.froz o, ?_⟩ (Mod.setCellsL b _ off w)
 ·have htl : (us.take off).length = off := by rw [List.length_take]; omega
  simp only [List.getElem?_toArray]
  by_cases ho1 : o < off
  ·rw [World.cell?_setCells_out b _ off w _ (fun _ _ => .inl ho1), hB.cell, List.append_assoc, List.getElem?_append_left (by omega), List.getElem?_take, if_pos ho1]
   simp
  ·by_cases ho2 : o < off + n
   ·have hj : o - off < vs.length := by omega
    have := World.cell?_setCells_in b vs off w (fun i hi => (ht i hi).1) (o - off) hj
    rw [show off + (o - off) = o from by omega] at this
    rw [List.append_assoc, List.getElem?_append_right (by omega), htl, List.getElem?_append_left hj, List.getElem?_eq_getElem hj]
    exact this
   ·rw [World.cell?_setCells_out b _ off w _ (fun _ _ => .inr (by simp; omega)), hB.cell, List.append_assoc, List.getElem?_append_right (by omega), htl, List.getElem?_append_right (by omega), List.getElem?_drop]
    simp only [List.getElem?_toArray]
    rw [show off + n + (o - off - vs.length) = o from by omega]
 ·exact Nat.lt_of_lt_of_le hB.lt (Mod.setCellsL b _ off w).size
theorem st_disk {w : World} {X : Nat} {lv : Value} {sp : Int} {d : Dk} {b : Bool} (h : Blk w X (stcs lv sp d b).toArray) : w.rangeAt X 2 (dcs d) := by
 intro j v hj
 rw [h.cell (2 + j)]
 have hj5 : j < 5 := by have := (List.getElem?_eq_some_iff.1 hj).1; simpa using this
 rcases (show j = 0 ∨ j = 1 ∨ j = 2 ∨ j = 3 ∨ j = 4 by omega) with rfl | rfl | rfl | rfl | rfl <;> simpa using hj
end
end Go.Proofs.YthgjdaomcpinaaaGreatDoor
namespace Go.Proofs.YthgjdaomcpinaaaGreatDoor
open Go.RowKit Pl
theorem spoilz_any (base : Nat) (v : Value) (l : List Int) (w : World) (hv : ZRow w base v l) :
  Calls Tryz.prog 91 #[v] w fun e w' => e = .returned (.tuple #[]) ∧ Mod v.ownBlock.toList w w' := by
 rcases hv.cells with ⟨rfl, rfl⟩ | ⟨g, cap, rfl, h1, h2, h3, h4, h5, h6⟩
 ·go_enter Tryz.func91, Tryz.ntmps91
  go_wp2_with fail
  go_loopw [2] (fun s2 wr => s2 = .int .i64 0 ∧ wr = w) (fun s2 _ => 0)
  case atStart => exact ⟨rfl, rfl⟩
  case round =>
   obtain ⟨rfl, rfl⟩ := hrel
   go_wp2_with fail
   refine bodyPost_end (results_none rfl _ _ _) rfl ?_
   exact ⟨rfl, Mod.refl _ _⟩
 ·unfold maxLen at h4
  have H5 := Lib.hid h5
  have H6 := Lib.hid h6
  clear h5 h6 hv
  go_enter Tryz.func91, Tryz.ntmps91
  go_wp2_with fail
  go_loopw [2] (fun s2 wr => ∃ i : Nat, i ≤ l.length ∧ s2 = .int .i64 i ∧ Hid (∀ j, j < l.length → ∃ x : Value, wr.cell? ⟨g, j, none⟩ = some x) ∧ Hid (∀ o, wr.frozen? ⟨g, o, none⟩ = false) ∧ Mod [g] w wr) (fun s2 _ => l.length - (intOf s2).toNat)
  case atStart => exact ⟨0, by omega, rfl, Lib.hid (fun j hj => ⟨_, H5.out j hj⟩), H6, Mod.refl _ _⟩
  case round =>
   obtain ⟨i, hi, rfl, HC, HF, hm⟩ := hrel
   by_cases hlt : i < l.length
   ·have hlt' : (i : Int) < (l.length : Int) := by omega
    obtain ⟨x, hx⟩ := HC.out i hlt
    have hf := HF.out i
    go_wp2_with fail
    refine ⟨⟨i + 1, by omega, by go_num, Lib.hid (fun j hj => ?_), Lib.hid (fun o => by rw [World.frozen?_setCell]; exact HF.out o), hm.setCell (.inl (by simp)) _⟩, by simp [intOf]; omega⟩
    by_cases e : j = i
    ·subst e; exact ⟨_, World.cell?_setCell_same _ _ _ hx⟩
    ·obtain ⟨y, hy⟩ := HC.out j hj
     exact ⟨y, by rw [World.cell?_setCell_other _ _ _ _ (fun h => e (by injection h with _ h2 _; exact h2.symm))]; exact hy⟩
   ·have hlt' : ¬ (i : Int) < (l.length : Int) := by omega
    go_wp2_with fail
    refine bodyPost_end (results_none rfl _ _ _) rfl ?_
    exact ⟨rfl, hm⟩
end Go.Proofs.YthgjdaomcpinaaaGreatDoor
