/- RScan, RJOpen. -/
import Derived.Test.YthgjdaomcpinaaaGreatDoorMp29
set_option linter.unnecessarySimpa false
set_option linter.unusedSimpArgs false
set_option linter.unusedVariables false
set_option maxRecDepth 100000
set_option maxHeartbeats 32000000
namespace Go.Proofs.YthgjdaomcpinaaaGreatDoor
open Go.RowKit Pl
theorem cutT_parts {tail : Bs} (h : CutT tail) (h0 : tail ≠ []) : (mText tail 0 524288).2.2 ≠ 0 ∨ ∃ b r, mayR b = true ∧ b.length ≤ 1000 ∧ mText tail 0 524288 = (Pl.encS b, r, 0) ∧ tail.length < (recP b).length := by
 rcases h with h | ⟨b, n, hm, hbl, hn, rfl⟩
 ·exact absurd h h0
 ·obtain ⟨h1, h2, h3⟩ := may_parts hm
  have hs4 := sum4_len (text (Pl.encS b))
  have hl : (recP b).length = (text (Pl.encS b)).length + 4 := by unfold recP; rw [List.length_append, hs4]
  by_cases hT : n < (text (Pl.encS b)).length
  ·left
   have e0 : (recP b).take n = (text (Pl.encS b)).take n := by unfold recP; rw [List.take_append_of_le_length (by omega)]
   have hc := tx_cut (Pl.encS b) 524288 (by omega) (by omega) (by omega) n hT
   rw [e0]
   unfold mText
   rw [if_neg (by simp), if_pos hc]
   exact hc
  ·right
   have e0 : (recP b).take n = text (Pl.encS b) ++ ((sumP (text (Pl.encS b))).take 4).take (n - (text (Pl.encS b)).length) := by
    unfold recP
    rw [List.take_append, List.take_of_length_le (by omega)]
   have e1 := nText_rec hm (((sumP (text (Pl.encS b))).take 4).take (n - (text (Pl.encS b)).length))
   rw [← e0] at e1
   exact ⟨b, _, hm, hbl, e1, by rw [List.length_take]; omega⟩
theorem mList_may {b : List Bs} (hm : mayR b = true) : mList (Pl.encS b) 0 1024 65536 = (b, [], 0) := by
 obtain ⟨h1, h2, h3⟩ := may_parts hm
 have := mList_all b 1024 65536 (by omega) (by omega) (fun x hx => by have := h2 x hx; omega) []
 rw [List.append_nil] at this
 exact this
theorem rscan_any (B : List (List Bs)) (tail : Bs) (hB : ∀ b ∈ B, mayR b = true ∧ b.length ≤ 1000) (ht : CutT tail) (hl : (recsP B ++ tail).length ≤ 1048576) (w : World) :
  Calls Tryz.prog 140 #[.string ⟨List.toArray (recsP B ++ tail)⟩] w fun e w' => ∃ v, e = .returned (.tuple #[v, .int .i64 (((recsP B).length : Int))]) ∧ LS w' w.heap.size v B ∧ Below w.heap.size w w' := by
 have HL := Lib.hid (recsP_le B)
 have h4 := recsP_four B
 have hBl : B.length ≤ 262144 := by rw [List.length_append] at hl; omega
 obtain ⟨s, hs⟩ : ∃ s, s = recsP B ++ tail := ⟨_, rfl⟩
 have HD := Lib.hid (fun i => recsP_drop B tail i)
 have hsl : s.length = (recsP B).length + tail.length := by rw [hs, List.length_append]
 rw [← hs] at HD hl ⊢
 have HS := Lib.hid (recsP_step B)
 have HB := Lib.hid hB
 have HT := Lib.hid ht
 have HSL := Lib.hid hsl
 clear hs hsl hB ht h4
 go_enter Tryz.func140, Tryz.ntmps140
 go_wp2_with fail
 go_loopw [4, 5] (fun s4 s5 wr => ∃ (i n : Nat), i ≤ B.length ∧ Hid (n = (recsP (B.take i)).length) ∧ s5 = .int .i64 n ∧ LS wr w.heap.size s4 (B.take i) ∧ Below w.heap.size w wr) (fun s4 s5 _ => s.length - (intOf s5).toNat)
 case atStart => exact ⟨0, 0, by omega, Lib.hid rfl, rfl, LS.nil _ _, Below.refl _ _⟩
 case round =>
  obtain ⟨i, n, hi, HN, rfl, hS, hb⟩ := hrel
  obtain ⟨wr, hnm⟩ := Below.name hb
  subst hnm
  have hti : (B.take i).length = i := by rw [List.length_take]; omega
  obtain ⟨sa, sc, hsv⟩ := hS.form
  rw [hti] at hsv
  subst hsv
  have hnl : n ≤ s.length := by rw [HN.out]; have := HL.out i; have := HSL.out; omega
  have hDn : s.drop n = recsP (B.drop i) ++ tail := by rw [HN.out]; exact HD.out i
  by_cases hlt : i < B.length
  ·have hst := HS.out i hlt
   have hmem : B.getD i [] ∈ B := by rw [List.getD_eq_getElem?_getD, List.getElem?_eq_getElem hlt]; exact List.getElem_mem _
   obtain ⟨hmy, hbl⟩ := HB.out _ hmem
   obtain ⟨hm1, hm2, hm3⟩ := may_parts hmy
   have hD2 : s.drop n = recP (B.getD i []) ++ (recsP (B.drop (i + 1)) ++ tail) := by
    rw [hDn, List.drop_eq_getElem_cons hlt, recsP_cons, List.append_assoc, List.getD_eq_getElem?_getD, List.getElem?_eq_getElem hlt]
    rfl
   have hrp := recP_pos (B.getD i [])
   have hln : n + (recP (B.getD i [])).length ≤ s.length := by
    have h := congrArg List.length hD2
    rw [List.length_drop, List.length_append] at h
    omega
   have HN2 : Hid (n + (recP (B.getD i [])).length = (recsP (B.take (i + 1))).length) := Lib.hid (by rw [hst, List.length_append, HN.out])
   have HTK : Hid (B.take (i + 1) = B.take i ++ [B.getD i []]) := Lib.hid (by rw [List.take_succ_eq_append_getElem hlt, List.getD_eq_getElem?_getD, List.getElem?_eq_getElem hlt]; rfl)
   generalize B.getD i [] = b at *
   have hmt : mText (s.drop n) 0 524288 = (Pl.encS b, (sumP (text (Pl.encS b))).take 4 ++ (recsP (B.drop (i + 1)) ++ tail), 0) := by
    rw [hD2]
    unfold recP
    rw [List.append_assoc]
    exact nText_rec hmy _
   have q1 := fun W p (h : RRdr W p (s.drop n) 0) => rrText_any (s.drop n) 0 524288 p W (by rw [List.length_drop]; omega) h
   rw [hmt] at q1
   have q2 := fun W p (h : RRdr W p (Pl.encS b) 0) => rrListL_any (Pl.encS b) 0 1024 65536 p W h (by omega) (by omega)
   rw [mList_may hmy] at q2
   have q3 := fun W p (h : RRdr W p [] 0) => rrEnd_any [] 0 p W (by simp) h
   rw [show mEnd [] 0 = 0 from rfl] at q3
   have q4 := fun W v (h : SS W v b) => rrecord_any v b hbl hmy W h
   have hsx : ((s.drop n).take (recP b).length) = recP b := by rw [hD2, List.take_left]
   simp only at q1 q2
   generalize (sumP (text (Pl.encS b))).take 4 ++ (recsP (B.drop (i + 1)) ++ tail) = X1 at *
   generalize Pl.encS b = E at *
   generalize recP b = RB at *
   have i1 : decide ((n : Int) < (s.length : Int)) = true := by simp; omega
   have i0 : decide (n < s.length) = true := by simp; omega
   have i2 : (0 : Int) ≤ (n : Int) ∧ (n : Int) ≤ (s.length : Int) := by omega
   have w1 : IntKind.i64.wrap ((n : Int) + (RB.length : Int)) = (n : Int) + (RB.length : Int) := by rw [IntKind.wrap_i64]; omega
   have w2 : IntKind.i64.wrap ((s.length : Int) - (n : Int)) = (s.length : Int) - (n : Int) := by rw [IntKind.wrap_i64]; omega
   have i3 : decide ((s.length : Int) - (n : Int) < (RB.length : Int)) = false := by simp; omega
   have i4 : (n : Int) ≤ (n : Int) + (RB.length : Int) ∧ (n : Int) + (RB.length : Int) ≤ (s.length : Int) := by omega
   have hx : (s.drop n).take (s.length - n) = s.drop n := List.take_of_length_le (by rw [List.length_drop]; omega)
   obtain ⟨ts, t1, t2, t3⟩ := hS
   rw [hti] at t1 t2
   have HT1 := Lib.hid t1
   have HHX := Lib.hid hsx
   clear hD2 hDn hmem hmy hst HN HD hmt hm1 hm2 hm3
   go_wp2_with fail
   obtain ⟨p, hp⟩ : ∃ p, p = wr.heap.size := ⟨_, rfl⟩
   obtain ⟨w3, hw3⟩ : ∃ w3, w3 = wr.alloc (.cells #[.string ⟨List.toArray (s.drop n)⟩, .int .i64 0] 107) := ⟨_, rfl⟩
   have R1 : RRdr w3 p (s.drop n) 0 := by rw [hw3, hp]; exact Blk.new _ _ _
   have hb3 : Below w.heap.size w w3 := by rw [hw3]; exact Below.allocS hb _
   have hbn : Below wr.heap.size wr w3 := by rw [hw3]; exact Below.allocS (Below.refl _ _) _
   have hpw : w.heap.size ≤ p := by have := hb.size; omega
   have hpr : wr.heap.size ≤ p := by omega
   rw [← hw3, ← hp]
   clear hw3 hp
   refine (q1 _ _ R1).mono ?_
   rintro e w4 ⟨rfl, R2, m4⟩
   have hb4 := Below.mod hb3 m4 hb3.size (by simp; omega)
   have hbn4 := Below.mod hbn m4 hbn.size (by simp; omega)
   have hpl := (show Blk w4 p _ from R2).lt
   clear q1 R1 m4 hb3 hbn
   go_wp2_with fail
   obtain ⟨p2, hp2⟩ : ∃ p2, p2 = w4.heap.size := ⟨_, rfl⟩
   obtain ⟨w5, hw5⟩ : ∃ w5, w5 = w4.alloc (.cells #[.string ⟨List.toArray E⟩, .int .i64 0] 107) := ⟨_, rfl⟩
   have R3 : RRdr w5 p2 E 0 := by rw [hw5, hp2]; exact Blk.new _ _ _
   have R2' : Blk w5 p #[.string ⟨List.toArray X1⟩, .int .i64 0] := by rw [hw5]; exact (show Blk w4 p _ from R2).alloc _
   have hb5 : Below w.heap.size w w5 := by rw [hw5]; exact Below.allocS hb4 _
   have hbn5 : Below wr.heap.size wr w5 := by rw [hw5]; exact Below.allocS hbn4 _
   have hp2p : p < p2 := by omega
   rw [← hw5, ← hp2]
   clear hw5 hp2 hb4 hbn4 hpl R2
   refine (q2 _ _ R3).mono ?_
   rintro e w6 ⟨v, rfl, hV, R4, m6⟩
   have hb6 := Below.mod hb5 m6 hb5.size (by simp; omega)
   have hbn6 := Below.mod hbn5 m6 hbn5.size (by simp; omega)
   have R26 := R2'.mod m6 (by simp; omega)
   have hVw := hV.low hb5.size
   have hp2l : p2 < w5.heap.size := (show Blk w5 p2 _ from R3).lt
   have HV6 := Lib.hid hV
   obtain ⟨r1, r2, r3⟩ := id R26
   have r11 := r1 1
   clear q2 R3 m6 hb5 hbn5 R2' hV
   go_wp2_with fail
   refine (q3 _ _ R4).mono ?_
   rintro e w7 ⟨rfl, m7⟩
   have hb7 := Below.mod hb6 m7 hb6.size (by simp; omega)
   have hbn7 := Below.mod hbn6 m7 hbn6.size (by simp; omega)
   have hV7 := HV6.out.mod m7 hp2l
   obtain ⟨va, vc, rfl⟩ := hV7.form
   clear q3 R4 m7 hb6 hbn6 HV6 r1 r2 r3 r11 R26 hVw
   go_wp2_with fail
   refine (q4 _ _ hV7.ss).mono ?_
   rintro e w8 ⟨rfl, hb⟩
   have hb8 := hb7.trans (hb.mono hb7.size)
   have hbn8 := hbn7.trans (hb.mono hbn7.size)
   have hV8 := (hV7.keep hb).low (show w.heap.size ≤ w5.heap.size from by have := hbn7.size; omega)
   clear q4 hb hb7 hbn7 hV7
   have hr2 := row_belowO t2 hbn8
   have ht3 : ∀ j, j < (B.take i).length → SRow w8 w.heap.size (ts.getD j nilSl) ((B.take i).getD j []) := fun j hj => (t3 j hj).keep hbn8
   have HT3 := Lib.hid ht3
   have hs8 := hb8.size
   clear t2 t3 ht3
   go_wp2_with (first
    | (at_builtin; refine wpList_appG rfl (.tmp 61) (.tmp 63) 117 22 (.slice none 0 0) 1 24 Tryz.underlying117 infoSS rfl (by decide) (by decide) rfl w.heap.size i _ ts [.slice va b.length vc] rfl (row_belowO hr2 (Below.allocS (Below.refl _ _) _)) rfl w8.heap.size rfl (fun j u hj => ?_) (by simp [Value.oneCell']) (by omega) (by simp; omega) ?_; rotate_left; intro v5 w5 hr5 hg5 hv5)
    | fail)
   ·have hls5 : LS w5 w.heap.size v5 (B.take i ++ [b]) := by
     have hgx := (LS.keep (B := B.take i) (v := .slice sa i sc) (base := w.heap.size) (w := w8) ⟨ts, by rw [hti]; exact HT1.out, by rw [hti]; exact hr2, HT3.out⟩ (Below.allocS (Below.refl _ _) (.cells #[.slice va b.length vc] 22)))
     exact LS.snoc hgx (hV8.keep (Below.allocS (Below.refl _ _) _)) hg5 (by rw [hti]; exact HT1.out) (fun j hj => (HT3.out j hj).keep (Below.allocS (Below.refl _ _) _)) (by rw [hti]; exact row_belowO hr2 (Below.allocS (Below.refl _ _) _)) (by rw [hti]; exact hr5)
    have hbg := grown_below hg5 (by simp; omega) (fun k hk => (row_ltO hr2 hk).1)
    have hb5 := (Below.allocS hb8 (.cells #[.slice va b.length vc] 22)).trans hbg
    rw [← HTK.out] at hls5
    exact ⟨⟨i + 1, n + RB.length, by omega, HN2, by go_num, hls5, hb5⟩, by simp [intOf]; omega⟩
   ·rcases j with _ | j
    ·simp at hj
     subst hj
     simp
    ·simp at hj
  ·have hil : i = B.length := by omega
   subst hil
   rw [List.take_length] at hS
   have hnl2 : n = (recsP B).length := by rw [HN.out, List.take_length]
   rw [List.drop_length] at hDn
   have hD2 : s.drop n = tail := by rw [hDn]; rfl
   have HNL := Lib.hid hnl2
   clear hi hlt hDn HN HD HB hti
   by_cases ht0 : n < s.length
   ·have i1 : decide ((n : Int) < (s.length : Int)) = true := by simp; omega
    have i0 : decide (n < s.length) = true := by simpa using ht0
    have i2 : (0 : Int) ≤ (n : Int) ∧ (n : Int) ≤ (s.length : Int) := by omega
    have hx : (s.drop n).take (s.length - n) = s.drop n := List.take_of_length_le (by rw [List.length_drop]; omega)
    have htn : tail ≠ [] := by intro e; have h := congrArg List.length hD2; rw [e, List.length_drop] at h; simp at h; omega
    have hcp := cutT_parts HT.out htn
    have hdl : (s.drop n).length = s.length - n := List.length_drop
    rw [← hD2] at hcp
    have q1 := fun W p (h : RRdr W p (s.drop n) 0) => rrText_any (s.drop n) 0 524288 p W (by omega) h
    have hLl : ((mText (s.drop n) 0 524288).1.length : Int) ≤ 524288 := mText_le _ 0 524288 (by omega)
    generalize mText (s.drop n) 0 524288 = y at *
    obtain ⟨L, s1, c1⟩ := y
    simp only at q1 hcp hLl
    have q2 := fun W p (h : RRdr W p L 0) => rrListL_any L 0 1024 65536 p W h (by omega) (by omega)
    have hLr := mList_rest L 0 1024 65536
    have HML := Lib.hid (fun (b : List Bs) (hm : mayR b = true) (e : L = Pl.encS b) => show mList L 0 1024 65536 = (b, [], 0) by rw [e]; exact mList_may hm)
    generalize mList L 0 1024 65536 = y at *
    obtain ⟨bb, s3, c3⟩ := y
    simp only at q2 hLr
    have q3 := fun W p (h : RRdr W p s3 c3) => rrEnd_any s3 c3 p W (by omega) h
    have HS1 := Lib.hid hS
    have HCP := Lib.hid hcp
    have w2 : IntKind.i64.wrap ((s.length : Int) - (n : Int)) = (s.length : Int) - (n : Int) := by rw [IntKind.wrap_i64]; omega
    have HDL := Lib.hid hdl
    clear hnl2 hD2 hS hcp htn hdl
    go_wp2_with fail
    obtain ⟨p, hp⟩ : ∃ p, p = wr.heap.size := ⟨_, rfl⟩
    obtain ⟨w3, hw3⟩ : ∃ w3, w3 = wr.alloc (.cells #[.string ⟨List.toArray (s.drop n)⟩, .int .i64 0] 107) := ⟨_, rfl⟩
    have R1 : RRdr w3 p (s.drop n) 0 := by rw [hw3, hp]; exact Blk.new _ _ _
    have hbn : Below wr.heap.size wr w3 := by rw [hw3]; exact Below.allocS (Below.refl _ _) _
    have hpr : wr.heap.size ≤ p := by omega
    rw [← hw3, ← hp]
    clear hw3 hp
    refine (q1 _ _ R1).mono ?_
    rintro e w4 ⟨rfl, R2, m4⟩
    have hbn4 := Below.mod hbn m4 hbn.size (by simp; omega)
    have hpl := (show Blk w4 p _ from R2).lt
    clear q1 R1 m4 hbn
    go_wp2_with fail
    obtain ⟨p2, hp2⟩ : ∃ p2, p2 = w4.heap.size := ⟨_, rfl⟩
    obtain ⟨w5, hw5⟩ : ∃ w5, w5 = w4.alloc (.cells #[.string ⟨List.toArray L⟩, .int .i64 0] 107) := ⟨_, rfl⟩
    have R3 : RRdr w5 p2 L 0 := by rw [hw5, hp2]; exact Blk.new _ _ _
    have R2' : Blk w5 p #[.string ⟨List.toArray s1⟩, .int .i64 c1] := by rw [hw5]; exact (show Blk w4 p _ from R2).alloc _
    have hbn5 : Below wr.heap.size wr w5 := by rw [hw5]; exact Below.allocS hbn4 _
    have hp2p : p < p2 := by omega
    have hp2r : wr.heap.size ≤ p2 := by omega
    rw [← hw5, ← hp2]
    clear hw5 hp2 hbn4 hpl R2
    refine (q2 _ _ R3).mono ?_
    rintro e w6 ⟨v, rfl, hV, R4, m6⟩
    have hbn6 := Below.mod hbn5 m6 hbn5.size (by simp; omega)
    have R26 := R2'.mod m6 (by simp; omega)
    have hp2l : p2 < w5.heap.size := (show Blk w5 p2 _ from R3).lt
    have HV6 := Lib.hid hV
    obtain ⟨r1, r2, r3⟩ := id R26
    have r11 := r1 1
    obtain ⟨va, vc, rfl⟩ := hV.form
    clear q2 R3 m6 hbn5 R2' hV
    by_cases hc1 : c1 = 0
    ·subst hc1
     obtain ⟨b, r, hmy, hbl, hex, htl⟩ := HCP.out.resolve_left (by simp)
     injection hex with hex1 hex2
     have hml := HML.out b hmy hex1
     injection hml with hml1 hml2
     injection hml2 with hml2 hml3
     subst hml1 hml2 hml3
     have q4 := fun W v (h : SS W v bb) => rrecord_any v bb hbl hmy W h
     rw [show mEnd [] 0 = 0 from rfl] at q3
     have htl2 : s.length - n < (recP bb).length := by have := HDL.out; omega
     generalize recP bb = RB at *
     have i3 : decide ((s.length : Int) - (n : Int) < (RB.length : Int)) = true := by simp; omega
     clear HCP HML hex1 hex2 htl hLr hLl
     go_wp2_with fail
     refine (q3 _ _ R4).mono ?_
     rintro e w7 ⟨rfl, m7⟩
     have hbn7 := Below.mod hbn6 m7 hbn6.size (by simp; omega)
     have hV7 := HV6.out.mod m7 hp2l
     clear q3 R4 m7 hbn6 HV6 r1 r2 r3 r11 R26
     go_wp2_with fail
     refine (q4 _ _ hV7.ss).mono ?_
     rintro e w8 ⟨rfl, hb8⟩
     have hbn8 := hbn7.trans (hb8.mono hbn7.size)
     have hSz := HS1.out.keep hbn8
     have hbz := hb.trans (hbn8.mono hb.size)
     clear q4 hb8 hV7
     go_wp2_with fail
     all_goals (go_ret2; exact ⟨_, (by rw [HNL.out]; rfl), hSz, hbz⟩)
    ·have k1 : (c1 != 0) = true := by simpa using hc1
     have hSz := HS1.out.keep hbn6
     have hbz := hb.trans (hbn6.mono hb.size)
     clear HCP HML q3 hLr hLl
     go_wp2_with fail
     all_goals (go_ret2; exact ⟨_, (by rw [HNL.out]; rfl), hSz, hbz⟩)
   ·have i1 : decide ((n : Int) < (s.length : Int)) = false := by simp; omega
    have i0 : decide (n < s.length) = false := by simpa using ht0
    clear hnl2 hD2
    go_wp2_with fail
    all_goals (go_ret2; exact ⟨_, (by rw [HNL.out]; rfl), hS, hb⟩)
end Go.Proofs.YthgjdaomcpinaaaGreatDoor
namespace Go.Proofs.YthgjdaomcpinaaaGreatDoor
open Go.RowKit Pl
theorem res_dk3 {fn : Func} {a b c : Nat} (h : fn.results = #[.cell a 72, .tmp b, .tmp c]) (tmps : Array Value) (W : World) (d : Dk) (k : Nat) (hp : tmps.getD a undef = .pointer (some ⟨k, 0, none⟩)) (hB : Blk W k (dcs d).toArray) :
  (results fn tmps).run Tryz.prog W = .ok (.tuple #[dv d, tmps.getD b undef, tmps.getD c undef]) W := by
 unfold results
 rw [h]
 rw [Array.getD_eq_getD_getElem?] at hp
 have hl := row_loadVar row_dk W rfl hB
 simp [hp, asAddr, hl, Sem.run_bind]
theorem rwriteT_any (d : Dk) (v : Value) (hv : ∃ a n c, v = .slice a n c) (w : World) :
  Calls Tryz.prog 144 #[dv d, .bool true, v] w fun e w' => e = .returned (.tuple #[dv d, .bool true, .int .i64 320]) ∧ Below w.heap.size w w' := by
 obtain ⟨s, safe, room, fuse, down⟩ := d
 obtain ⟨va, vn, vc, rfl⟩ := hv
 go_enter Tryz.func144, Tryz.ntmps144
 go_wp2_with fail
 refine bodyPost_ret (res_dk3 rfl _ _ ⟨s, safe, room, fuse, down⟩ _ rfl (Blk.new' (by simp))) rfl ?_
 exact ⟨rfl, Below.allocS (Below.allocS (Below.refl _ _) _) _⟩
theorem rwrite_any (d : Dk) (v : Value) (l : List Bs) (hn : l.length ≤ 1000) (hm : mayR l = true) (hf : -9223372036854775807 ≤ d.fuse ∧ d.fuse ≤ 9223372036854775807) (hrm : 0 ≤ d.room ∧ d.room ≤ 1048576) (hsl : d.s.length ≤ 1048576) (w : World) (hv : SS w v l) :
  Calls Tryz.prog 144 #[dv d, .bool false, v] w fun e w' => e = .returned (.tuple #[dv (writeD d l).1, .bool (tornD (writeD d l).2), .int .i64 ((writeD d l).2)]) ∧ Below w.heap.size w w' := by
 have hlen : (recP l).length ≤ 1000000 := by
  obtain ⟨h1, h2, h3⟩ := may_parts hm
  have h1 := text_len (Pl.encS l)
  unfold recP
  rw [List.length_append, List.length_take]
  omega
 have q1 := fun W (hb : Below w.heap.size w W) => rrecord_any v l hn hm W (hv.keep hb)
 have q2 := fun W => rappend_any d (recP l) hf hrm hsl (by omega) W
 have hap := app_fuse d (recP l)
 have q3 := fun W => rsync_any (appD d (recP l)).1 (by omega) W
 have HW : Hid (writeD d l = if (appD d (recP l)).2 = 0 then syncD (appD d (recP l)).1 else appD d (recP l)) := Lib.hid rfl
 generalize writeD d l = R at *
 generalize recP l = RB at *
 generalize appD d RB = x at *
 obtain ⟨⟨s1, sf1, rm1, fu1, dn1⟩, c1⟩ := x
 simp only at q2 q3 HW
 generalize syncD ⟨s1, sf1, rm1, fu1, dn1⟩ = y at *
 obtain ⟨⟨s2, sf2, rm2, fu2, dn2⟩, c2⟩ := y
 simp only at q3
 obtain ⟨s, safe, room, fuse, down⟩ := d
 obtain ⟨va, vc, rfl⟩ := hv.form
 obtain ⟨B1, B2, hb2⟩ := two_blk w ⟨s, safe, room, fuse, down⟩
 clear hap hf hrm hsl hm hv hlen
 go_enter Tryz.func144, Tryz.ntmps144
 go_wp2_with fail
 refine (q1 _ hb2).mono ?_
 rintro e w3 ⟨rfl, hb⟩
 have B13 := B1.keep hb
 have B23 := B2.keep hb
 have hb3 := hb2.trans (hb.mono hb2.size)
 have hs3 : w.heap.size + 2 ≤ w3.heap.size := by have := hb.size; simp at this; exact this
 clear q1 B1 B2 hb hb2
 go_wp2_with (first | (refine wpList_rowLoad row_dk rfl (.tmp 3) rfl rfl (vs := dcs ⟨s, safe, room, fuse, down⟩) rfl B13 ?_) | fail)
 refine (q2 _).mono ?_
 rintro e w4 ⟨rfl, hb⟩
 have B14 := B13.keep hb
 have B24 := B23.keep hb
 have hb4 := hb3.trans (hb.mono hb3.size)
 have hs4 := hb.size
 clear q2 B13 B23 hb hb3
 by_cases h1 : c1 = 0
 ·subst h1
  have HR : Hid (R = (⟨s2, sf2, rm2, fu2, dn2⟩, c2)) := Lib.hid (by rw [HW.out, if_pos rfl])
  clear HW
  go_wp2_with (first
   | (refine wpList_rowStore row_dk rfl rfl (.tmp 3) (.tmp 26) rfl rfl rfl (vs := dcs ⟨s1, sf1, rm1, fu1, dn1⟩) rfl (dcs_one _) (us := dcs ⟨s, safe, room, fuse, down⟩) rfl B14 ?_; intro w5 N5 m5; have B25 := B24.mod m5 (by simp); have hb5 := mod_two hb4 m5 (Nat.le_refl _) (by omega); have hs5 := m5.size)
   | (refine wpList_rowLoad row_dk rfl (.tmp 3) rfl rfl (vs := dcs ⟨s1, sf1, rm1, fu1, dn1⟩) rfl N5 ?_))
  refine (q3 _).mono ?_
  rintro e w6 ⟨rfl, hb⟩
  have B16 := N5.keep hb
  have B26 := B25.keep hb
  have hb6 := hb5.trans (hb.mono hb5.size)
  have hs6 := hb.size
  clear q3 hb N5 B25 hb5 m5
  by_cases h2 : c2 = 0
  ·subst h2
   go_wp2_with (first
    | (refine wpList_rowStore row_dk rfl rfl (.tmp 3) (.tmp 33) rfl rfl rfl (vs := dcs ⟨s2, sf2, rm2, fu2, dn2⟩) rfl (dcs_one _) (us := dcs ⟨s1, sf1, rm1, fu1, dn1⟩) rfl B16 ?_; intro w7 N7 m7; have B27 := B26.mod m7 (by simp); have hb7 := mod_two hb6 m7 (Nat.le_refl _) (by omega); have hs7 := m7.size)
    | (refine wpList_rowLoad row_dk rfl (.tmp 3) rfl rfl (vs := dcs ⟨s2, sf2, rm2, fu2, dn2⟩) rfl N7 ?_)
    | (refine wpList_rowStore row_dk rfl rfl (.tmp 6) (.tmp 35) rfl rfl rfl (vs := dcs ⟨s2, sf2, rm2, fu2, dn2⟩) rfl (dcs_one _) (us := dcs ⟨[], 0, 0, 0, false⟩) rfl B27 ?_; intro w8 N8 m8))
   have hb8 := mod_two hb7 m8 (by omega) (by omega)
   refine bodyPost_ret (res_dk3 rfl _ _ ⟨s2, sf2, rm2, fu2, dn2⟩ _ rfl N8) rfl ?_
   rw [HR.out]
   exact ⟨rfl, hb8⟩
  ·have g1 : (c2 != 0) = true := by simpa using h2
   have g2 : (c2 == 0) = false := by simpa using h2
   have HT : Hid (tornD c2 = (c2 != 310)) := Lib.hid (by unfold tornD; by_cases h : c2 = 310 <;> simp [h, h2])
   clear h2
   go_wp2_with (first
    | (refine wpList_rowStore row_dk rfl rfl (.tmp 3) (.tmp 33) rfl rfl rfl (vs := dcs ⟨s2, sf2, rm2, fu2, dn2⟩) rfl (dcs_one _) (us := dcs ⟨s1, sf1, rm1, fu1, dn1⟩) rfl B16 ?_; intro w7 N7 m7; have B27 := B26.mod m7 (by simp); have hb7 := mod_two hb6 m7 (Nat.le_refl _) (by omega); have hs7 := m7.size)
    | (refine wpList_rowLoad row_dk rfl (.tmp 3) rfl rfl (vs := dcs ⟨s2, sf2, rm2, fu2, dn2⟩) rfl N7 ?_)
    | (refine wpList_rowStore row_dk rfl rfl (.tmp 6) (.tmp 35) rfl rfl rfl (vs := dcs ⟨s2, sf2, rm2, fu2, dn2⟩) rfl (dcs_one _) (us := dcs ⟨[], 0, 0, 0, false⟩) rfl B27 ?_; intro w8 N8 m8))
   have hb8 := mod_two hb7 m8 (by omega) (by omega)
   refine bodyPost_ret (res_dk3 rfl _ _ ⟨s2, sf2, rm2, fu2, dn2⟩ _ rfl N8) rfl ?_
   rw [HR.out]
   simp only [HT.out]
   exact ⟨rfl, hb8⟩
 ·have g1 : (c1 != 0) = true := by simpa using h1
  have g2 : (c1 == 0) = false := by simpa using h1
  have HR : Hid (R = (⟨s1, sf1, rm1, fu1, dn1⟩, c1)) := Lib.hid (by rw [HW.out, if_neg h1])
  have HT : Hid (tornD c1 = (c1 != 310)) := Lib.hid (by unfold tornD; by_cases h : c1 = 310 <;> simp [h, h1])
  clear HW h1 q3
  go_wp2_with (first
   | (refine wpList_rowStore row_dk rfl rfl (.tmp 3) (.tmp 26) rfl rfl rfl (vs := dcs ⟨s1, sf1, rm1, fu1, dn1⟩) rfl (dcs_one _) (us := dcs ⟨s, safe, room, fuse, down⟩) rfl B14 ?_; intro w5 N5 m5; have B25 := B24.mod m5 (by simp); have hb5 := mod_two hb4 m5 (Nat.le_refl _) (by omega); have hs5 := m5.size)
   | (refine wpList_rowLoad row_dk rfl (.tmp 3) rfl rfl (vs := dcs ⟨s1, sf1, rm1, fu1, dn1⟩) rfl N5 ?_)
   | (refine wpList_rowStore row_dk rfl rfl (.tmp 6) (.tmp 35) rfl rfl rfl (vs := dcs ⟨s1, sf1, rm1, fu1, dn1⟩) rfl (dcs_one _) (us := dcs ⟨[], 0, 0, 0, false⟩) rfl B25 ?_; intro w8 N8 m8))
  have hb8 := mod_two hb5 m8 (by omega) (by omega)
  refine bodyPost_ret (res_dk3 rfl _ _ ⟨s1, sf1, rm1, fu1, dn1⟩ _ rfl N8) rfl ?_
  rw [HR.out]
  simp only [HT.out]
  exact ⟨rfl, hb8⟩
def rjopened (w w' : World) (B : List (List Bs)) (r : Dk × Int) (e : Ending) : Prop :=
 Below w.heap.size w w' ∧ (r.2 = 0 → ∃ v, e = .returned (.tuple #[dv r.1, v, .int .i64 0]) ∧ LS w' w.heap.size v B) ∧ (r.2 ≠ 0 → e = .returned (.tuple #[dv r.1, .slice none 0 0, .int .i64 r.2]))
theorem rjopened.yes {w w' : World} {B : List (List Bs)} {r : Dk × Int} {v : Value} (hb : Below w.heap.size w w') (h : r.2 = 0) (hS : LS w' w.heap.size v B) : rjopened w w' B r (.returned (.tuple #[dv r.1, v, .int .i64 0])) :=
 ⟨hb, fun _ => ⟨v, rfl, hS⟩, fun h0 => absurd h h0⟩
theorem rjopened.no {w w' : World} {B : List (List Bs)} {r : Dk × Int} (hb : Below w.heap.size w w') (h : r.2 ≠ 0) : rjopened w w' B r (.returned (.tuple #[dv r.1, .slice none 0 0, .int .i64 r.2])) :=
 ⟨hb, fun h0 => absurd h0 h, fun _ => rfl⟩
theorem rjopen_any (d : Dk) (B : List (List Bs)) (tail : Bs) (hs : d.s = recsP B ++ tail) (hB : ∀ b ∈ B, mayR b = true ∧ b.length ≤ 1000) (ht : CutT tail) (hl : d.s.length ≤ 1048576) (hf : -9223372036854775806 ≤ d.fuse ∧ d.fuse ≤ 9223372036854775807) (w : World) :
  Calls Tryz.prog 81 #[dv d] w fun e w' => rjopened w w' B (openD d (recsP B).length) e := by
 have q2 := fun W => rscan_any B tail hB ht (by rw [← hs]; exact hl) W
 rw [← hs] at q2
 have hnl : (recsP B).length ≤ d.s.length := by rw [hs, List.length_append]; omega
 have hbf := burnt_fuse d
 by_cases hc : (recsP B).length < d.s.length
 ·have HO : Hid (openD d (recsP B).length = if (cutD d (recsP B).length).2 = 0 then syncD (cutD d (recsP B).length).1 else cutD d (recsP B).length) := Lib.hid (if_pos hc)
  have q3 := fun W => rcut_any d (recsP B).length hnl (by omega) hl W
  have hcf : -9223372036854775807 ≤ (cutD d (recsP B).length).1.fuse ∧ (cutD d (recsP B).length).1.fuse ≤ 9223372036854775807 := by
   unfold cutD
   split
   ·simp only; omega
   ·split
    ·simp only; rcases hbf with e | ⟨e, _⟩ <;> omega
    ·rcases hbf with e | ⟨e, _⟩ <;> omega
  have q4 := fun W => rsync_any (cutD d (recsP B).length).1 hcf W
  generalize openD d (recsP B).length = R at *
  generalize (recsP B).length = n at *
  generalize cutD d n = x at *
  obtain ⟨⟨s1, sf1, rm1, fu1, dn1⟩, c1⟩ := x
  simp only at q3 q4 HO
  generalize syncD ⟨s1, sf1, rm1, fu1, dn1⟩ = y at *
  obtain ⟨⟨s2, sf2, rm2, fu2, dn2⟩, c2⟩ := y
  obtain ⟨s, safe, room, fuse, down⟩ := d
  simp only at q2 q4 HO hc hnl
  have i1 : decide ((n : Int) < (s.length : Int)) = true := by simp; omega
  have i2 : decide (n < s.length) = true := by simpa using hc
  obtain ⟨B1, B2, hb2⟩ := two_blk w ⟨s, safe, room, fuse, down⟩
  clear hs hB ht hbf hcf hc hnl
  go_enter Tryz.func81, Tryz.ntmps81
  go_wp2_with fail
  refine (q2 _).mono ?_
  rintro e w3 ⟨v, rfl, hS, hb⟩
  obtain ⟨sa, sc, rfl⟩ := hS.form
  have B13 := B1.keep hb
  have B23 := B2.keep hb
  have hb3 := hb2.trans (hb.mono hb2.size)
  have hs3 : w.heap.size + 2 ≤ w3.heap.size := by have := hb.size; simp at this; exact this
  have HS := Lib.hid (hS.low (show w.heap.size + 2 ≤ _ from by simp))
  obtain ⟨n1, n2, n3⟩ := id B13
  clear q2 B1 B2 hb hb2 hS
  go_wp2_with (first | (refine wpList_rowLoad row_dk rfl (.tmp 1) rfl rfl (vs := dcs ⟨s, safe, room, fuse, down⟩) rfl B13 ?_) | fail)
  refine (q3 _).mono ?_
  rintro e w4 ⟨rfl, hb⟩
  have B14 := B13.keep hb
  have B24 := B23.keep hb
  have hb4 := hb3.trans (hb.mono hb3.size)
  have hs4 := hb.size
  have HS4 := Lib.hid (HS.out.keep hb)
  clear q3 B13 B23 hb hb3 n1 n2 n3 HS
  by_cases h1 : c1 = 0
  ·subst h1
   have HR : Hid (R = (⟨s2, sf2, rm2, fu2, dn2⟩, c2)) := Lib.hid (by rw [HO.out, if_pos rfl])
   clear HO
   go_wp2_with (first
   | (refine wpList_rowStore row_dk rfl rfl (.tmp 7) (.tmp 25) rfl rfl rfl (vs := dcs ⟨s1, sf1, rm1, fu1, dn1⟩) rfl (dcs_one _) (us := dcs ⟨[], 0, 0, 0, false⟩) rfl (Blk.new' (by simp)) ?_; intro w5 N5 m5; have hb5 := Below.mod (Below.allocS hb4 (.cells (dcs ⟨[], 0, 0, 0, false⟩).toArray 72)) m5 (by have := hb4.size; simp; omega) (by simp; omega); have hsz5 := m5.size; have B15 := (B14.alloc (.cells (dcs ⟨[], 0, 0, 0, false⟩).toArray 72)).mod m5 (by simp; omega); have B25 := (B24.alloc (.cells (dcs ⟨[], 0, 0, 0, false⟩).toArray 72)).mod m5 (by simp; omega); have HS5 := Lib.hid (HS4.out.keep (Below.mod (Below.allocS (Below.refl w4.heap.size w4) (.cells (dcs ⟨[], 0, 0, 0, false⟩).toArray 72)) m5 (by simp) (by simp))); have hs5 : w4.heap.size + 1 ≤ w5.heap.size := (by simpa using hsz5))
   | (refine wpList_rowLoad row_dk rfl (.tmp 7) rfl rfl (vs := dcs ⟨s1, sf1, rm1, fu1, dn1⟩) rfl N5 ?_)
   | (refine wpList_rowStore row_dk rfl rfl (.tmp 1) (.tmp 27) rfl rfl rfl (vs := dcs ⟨s1, sf1, rm1, fu1, dn1⟩) rfl (dcs_one _) (us := dcs ⟨s, safe, room, fuse, down⟩) rfl B15 ?_; intro w6 N6 m6; have hb6 := mod_two hb5 m6 (Nat.le_refl _) (by omega); have B26 := B25.mod m6 (by simp); have hs6 := m6.size; have HS6 := Lib.hid (HS5.out.modl m6 (by simp)))
   | (refine wpList_rowLoad row_dk rfl (.tmp 1) rfl rfl (vs := dcs ⟨s1, sf1, rm1, fu1, dn1⟩) rfl N6 ?_))
   refine (q4 _).mono ?_
   rintro e w7 ⟨rfl, hb⟩
   have B17 := N6.keep hb
   have B27 := B26.keep hb
   have hb7 := hb6.trans (hb.mono hb6.size)
   have hs7 := hb.size
   have HS7 := Lib.hid (HS6.out.keep hb)
   clear q4 hb N6 B26 hb6 HS6 m6 N5 m5 B25 B15 hb5 HS5
   by_cases h2 : c2 = 0
   ·subst h2
    go_wp2_with (first
     | (refine wpList_rowStore row_dk rfl rfl (.tmp 1) (.tmp 35) rfl rfl rfl (vs := dcs ⟨s2, sf2, rm2, fu2, dn2⟩) rfl (dcs_one _) (us := dcs ⟨s1, sf1, rm1, fu1, dn1⟩) rfl B17 ?_; intro w8 N8 m8; have hb8 := mod_two hb7 m8 (Nat.le_refl _) (by omega); have B28 := B27.mod m8 (by simp); have hs8 := m8.size; have HS8 := Lib.hid (HS7.out.modl m8 (by simp)))
     | (refine wpList_rowLoad row_dk rfl (.tmp 1) rfl rfl (vs := dcs ⟨s2, sf2, rm2, fu2, dn2⟩) rfl N8 ?_)
     | (refine wpList_rowStore row_dk rfl rfl (.tmp 2) (.tmp 41) rfl rfl rfl (vs := dcs ⟨s2, sf2, rm2, fu2, dn2⟩) rfl (dcs_one _) (us := dcs ⟨[], 0, 0, 0, false⟩) rfl B28 ?_; intro w9 N9 m9))
    have hb9 := mod_two hb8 m9 (by omega) (by omega)
    have hS9 := (HS8.out.modl m9 (by simp)).low (show w.heap.size ≤ w.heap.size + 2 by omega)
    refine bodyPost_ret (res_dk3 rfl _ _ ⟨s2, sf2, rm2, fu2, dn2⟩ _ rfl N9) rfl ?_
    rw [HR.out]
    exact rjopened.yes (r := (⟨s2, sf2, rm2, fu2, dn2⟩, 0)) hb9 rfl hS9
   ·have g1 : (c2 != 0) = true := by simpa using h2
    go_wp2_with (first
     | (refine wpList_rowStore row_dk rfl rfl (.tmp 1) (.tmp 35) rfl rfl rfl (vs := dcs ⟨s2, sf2, rm2, fu2, dn2⟩) rfl (dcs_one _) (us := dcs ⟨s1, sf1, rm1, fu1, dn1⟩) rfl B17 ?_; intro w8 N8 m8; have hb8 := mod_two hb7 m8 (Nat.le_refl _) (by omega); have B28 := B27.mod m8 (by simp); have hs8 := m8.size)
     | (refine wpList_rowLoad row_dk rfl (.tmp 1) rfl rfl (vs := dcs ⟨s2, sf2, rm2, fu2, dn2⟩) rfl N8 ?_)
     | (refine wpList_rowStore row_dk rfl rfl (.tmp 2) (.tmp 39) rfl rfl rfl (vs := dcs ⟨s2, sf2, rm2, fu2, dn2⟩) rfl (dcs_one _) (us := dcs ⟨[], 0, 0, 0, false⟩) rfl B28 ?_; intro w9 N9 m9))
    have hb9 := mod_two hb8 m9 (by omega) (by omega)
    refine bodyPost_ret (res_dk3 rfl _ _ ⟨s2, sf2, rm2, fu2, dn2⟩ _ rfl N9) rfl ?_
    rw [HR.out]
    exact rjopened.no (r := (⟨s2, sf2, rm2, fu2, dn2⟩, c2)) hb9 h2
  ·have g1 : (c1 != 0) = true := by simpa using h1
   have HR : Hid (R = (⟨s1, sf1, rm1, fu1, dn1⟩, c1)) := Lib.hid (by rw [HO.out, if_neg h1])
   clear HO q4
   go_wp2_with (first
   | (refine wpList_rowStore row_dk rfl rfl (.tmp 7) (.tmp 25) rfl rfl rfl (vs := dcs ⟨s1, sf1, rm1, fu1, dn1⟩) rfl (dcs_one _) (us := dcs ⟨[], 0, 0, 0, false⟩) rfl (Blk.new' (by simp)) ?_; intro w5 N5 m5; have hb5 := Below.mod (Below.allocS hb4 (.cells (dcs ⟨[], 0, 0, 0, false⟩).toArray 72)) m5 (by have := hb4.size; simp; omega) (by simp; omega); have hsz5 := m5.size; have B15 := (B14.alloc (.cells (dcs ⟨[], 0, 0, 0, false⟩).toArray 72)).mod m5 (by simp; omega); have B25 := (B24.alloc (.cells (dcs ⟨[], 0, 0, 0, false⟩).toArray 72)).mod m5 (by simp; omega); have HS5 := Lib.hid (HS4.out.keep (Below.mod (Below.allocS (Below.refl w4.heap.size w4) (.cells (dcs ⟨[], 0, 0, 0, false⟩).toArray 72)) m5 (by simp) (by simp))); have hs5 : w4.heap.size + 1 ≤ w5.heap.size := (by simpa using hsz5))
   | (refine wpList_rowLoad row_dk rfl (.tmp 7) rfl rfl (vs := dcs ⟨s1, sf1, rm1, fu1, dn1⟩) rfl N5 ?_)
   | (refine wpList_rowStore row_dk rfl rfl (.tmp 1) (.tmp 27) rfl rfl rfl (vs := dcs ⟨s1, sf1, rm1, fu1, dn1⟩) rfl (dcs_one _) (us := dcs ⟨s, safe, room, fuse, down⟩) rfl B15 ?_; intro w6 N6 m6; have hb6 := mod_two hb5 m6 (Nat.le_refl _) (by omega); have B26 := B25.mod m6 (by simp); have hs6 := m6.size; have HS6 := Lib.hid (HS5.out.modl m6 (by simp)))
   | (refine wpList_rowLoad row_dk rfl (.tmp 1) rfl rfl (vs := dcs ⟨s1, sf1, rm1, fu1, dn1⟩) rfl N6 ?_)
   | (refine wpList_rowStore row_dk rfl rfl (.tmp 2) (.tmp 30) rfl rfl rfl (vs := dcs ⟨s1, sf1, rm1, fu1, dn1⟩) rfl (dcs_one _) (us := dcs ⟨[], 0, 0, 0, false⟩) rfl B26 ?_; intro w9 N9 m9))
   have hb9 := mod_two hb6 m9 (by omega) (by omega)
   refine bodyPost_ret (res_dk3 rfl _ _ ⟨s1, sf1, rm1, fu1, dn1⟩ _ rfl N9) rfl ?_
   rw [HR.out]
   exact rjopened.no (r := (⟨s1, sf1, rm1, fu1, dn1⟩, c1)) hb9 h1
 ·have HO : Hid (openD d (recsP B).length = syncD d) := Lib.hid (if_neg hc)
  have q4 := fun W => rsync_any d (by omega) W
  generalize openD d (recsP B).length = R at *
  generalize (recsP B).length = n at *
  generalize syncD d = y at *
  obtain ⟨⟨s2, sf2, rm2, fu2, dn2⟩, c2⟩ := y
  obtain ⟨s, safe, room, fuse, down⟩ := d
  simp only at q2 q4 HO hc hnl
  have i1 : decide ((n : Int) < (s.length : Int)) = false := by simp; omega
  have i2 : decide (n < s.length) = false := by simpa using hc
  obtain ⟨B1, B2, hb2⟩ := two_blk w ⟨s, safe, room, fuse, down⟩
  clear hs hB ht hbf hnl
  go_enter Tryz.func81, Tryz.ntmps81
  go_wp2_with fail
  refine (q2 _).mono ?_
  rintro e w3 ⟨v, rfl, hS, hb⟩
  obtain ⟨sa, sc, rfl⟩ := hS.form
  have B13 := B1.keep hb
  have B23 := B2.keep hb
  have hb3 := hb2.trans (hb.mono hb2.size)
  have hs3 : w.heap.size + 2 ≤ w3.heap.size := by have := hb.size; simp at this; exact this
  have HS := Lib.hid (hS.low (show w.heap.size + 2 ≤ _ from by simp))
  obtain ⟨n1, n2, n3⟩ := id B13
  clear q2 B1 B2 hb hb2 hS
  go_wp2_with (first | (refine wpList_rowLoad row_dk rfl (.tmp 1) rfl rfl (vs := dcs ⟨s, safe, room, fuse, down⟩) rfl B13 ?_) | fail)
  refine (q4 _).mono ?_
  rintro e w7 ⟨rfl, hb⟩
  have B17 := B13.keep hb
  have B27 := B23.keep hb
  have hb7 := hb3.trans (hb.mono hb3.size)
  have hs7 := hb.size
  have HS7 := Lib.hid (HS.out.keep hb)
  clear q4 hb B13 B23 hb3 n1 n2 n3 HS
  by_cases h2 : c2 = 0
  ·subst h2
   go_wp2_with (first
    | (refine wpList_rowStore row_dk rfl rfl (.tmp 1) (.tmp 35) rfl rfl rfl (vs := dcs ⟨s2, sf2, rm2, fu2, dn2⟩) rfl (dcs_one _) (us := dcs ⟨s, safe, room, fuse, down⟩) rfl B17 ?_; intro w8 N8 m8; have hb8 := mod_two hb7 m8 (Nat.le_refl _) (by omega); have B28 := B27.mod m8 (by simp); have hs8 := m8.size; have HS8 := Lib.hid (HS7.out.modl m8 (by simp)))
    | (refine wpList_rowLoad row_dk rfl (.tmp 1) rfl rfl (vs := dcs ⟨s2, sf2, rm2, fu2, dn2⟩) rfl N8 ?_)
    | (refine wpList_rowStore row_dk rfl rfl (.tmp 2) (.tmp 41) rfl rfl rfl (vs := dcs ⟨s2, sf2, rm2, fu2, dn2⟩) rfl (dcs_one _) (us := dcs ⟨[], 0, 0, 0, false⟩) rfl B28 ?_; intro w9 N9 m9))
   have hb9 := mod_two hb8 m9 (by omega) (by omega)
   have hS9 := (HS8.out.modl m9 (by simp)).low (show w.heap.size ≤ w.heap.size + 2 by omega)
   refine bodyPost_ret (res_dk3 rfl _ _ ⟨s2, sf2, rm2, fu2, dn2⟩ _ rfl N9) rfl ?_
   rw [HO.out]
   exact rjopened.yes (r := (⟨s2, sf2, rm2, fu2, dn2⟩, 0)) hb9 rfl hS9
  ·have g1 : (c2 != 0) = true := by simpa using h2
   go_wp2_with (first
    | (refine wpList_rowStore row_dk rfl rfl (.tmp 1) (.tmp 35) rfl rfl rfl (vs := dcs ⟨s2, sf2, rm2, fu2, dn2⟩) rfl (dcs_one _) (us := dcs ⟨s, safe, room, fuse, down⟩) rfl B17 ?_; intro w8 N8 m8; have hb8 := mod_two hb7 m8 (Nat.le_refl _) (by omega); have B28 := B27.mod m8 (by simp); have hs8 := m8.size)
    | (refine wpList_rowLoad row_dk rfl (.tmp 1) rfl rfl (vs := dcs ⟨s2, sf2, rm2, fu2, dn2⟩) rfl N8 ?_)
    | (refine wpList_rowStore row_dk rfl rfl (.tmp 2) (.tmp 39) rfl rfl rfl (vs := dcs ⟨s2, sf2, rm2, fu2, dn2⟩) rfl (dcs_one _) (us := dcs ⟨[], 0, 0, 0, false⟩) rfl B28 ?_; intro w9 N9 m9))
   have hb9 := mod_two hb8 m9 (by omega) (by omega)
   refine bodyPost_ret (res_dk3 rfl _ _ ⟨s2, sf2, rm2, fu2, dn2⟩ _ rfl N9) rfl ?_
   rw [HO.out]
   exact rjopened.no (r := (⟨s2, sf2, rm2, fu2, dn2⟩, c2)) hb9 h2
end Go.Proofs.YthgjdaomcpinaaaGreatDoor
