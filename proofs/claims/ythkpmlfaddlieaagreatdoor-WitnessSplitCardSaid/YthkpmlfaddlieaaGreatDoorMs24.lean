/- ExW, WCheck, Shelf7. -/
import Derived.Shelf.Strings.Repeat
import Derived.Test.YthkpmlfaddlieaaGreatDoorMs22
import Derived.Test.YthkpmlfaddlieaaGreatDoorMs23
set_option linter.unnecessarySimpa false
set_option linter.unusedSimpArgs false
set_option linter.unusedVariables false
set_option maxRecDepth 100000
set_option maxHeartbeats 32000000
namespace Go.Proofs.YthkpmlfaddlieaaGreatDoor
open Go.RowKit Pl
theorem signs_grows (m : Bs) : ∀ (who : Bs) (L : List Sg) (n x : Bs), isIn L n x = true → isIn (signs m L who) n x = true
 | [], L, n, x, h => h
 | c :: r, L, n, x, h => signs_grows m r _ n x (signL_grows L [c] m true n x h)
theorem signL_le (L : List Sg) (who mark : Bs) (h : Bool) : (signL L who mark h).1.length ≤ L.length + 1 := by
 unfold signL
 split
 ·simp
 ·split
  ·simp
  ·split
   ·simp
   ·split <;> simp
theorem signL_now (L : List Sg) (who mark : Bs) (h : Bool) (hw : who ≠ []) (h6 : who.length ≤ 6) (hm : mark.length = 32) (hl : L.length < 1024) : isIn (signL L who mark h).1 who mark = true := by
 unfold signL
 rw [if_neg (by rintro (e | e); exact hw e; omega), if_neg (by omega)]
 split
 ·rename_i hin
  rw [isIn_mem] at hin ⊢
  rw [keys_set L who mark _ (by rw [isIn_mem]; exact hin)]
  exact hin
 ·rw [if_neg (by omega), isIn_mem]
  simp [keyOfS]
theorem signs_has (m : Bs) (hm : m.length = 32) : ∀ (who : Bs) (L : List Sg), L.length + who.length ≤ 1024 → ∀ c ∈ who, isIn (signs m L who) [c] m = true
 | [], L, _, c, hc => by cases hc
 | x :: r, L, hl, c, hc => by
  have hl1 : L.length + r.length + 1 ≤ 1024 := by simp at hl; omega
  have hle := signL_le L [x] m true
  rcases List.mem_cons.1 hc with e | e
  ·subst e
   exact signs_grows m r _ _ _ (signL_now L [c] m true (by simp) (by simp) hm (by omega))
  ·exact signs_has m hm r _ (by omega) c e
theorem markP_6 {s : Bs} (h : s.length = 32) : (markP 6 s).1 = tagP 6 s := by rw [markP_six, if_pos h]
theorem len4a : (dgH (hd4 1)).length = 32 := by rw [dgH_4a]; rfl
theorem len4b : (dgH (hd4 2)).length = 32 := by rw [dgH_4b]; rfl
def tab4 : List Sg := signs (markP 6 (dgH (hd4 2))).1 (signs (markP 6 (dgH (hd4 1))).1 [] [97, 98, 99]) [98, 99, 100]
theorem tab4_a : chkB tab4 (tagP (6 : Int).toNat (dgH (hd4 1))) [[97], [98], [99]] = true := by
 unfold chkB tab4
 have h1 : (markP 6 (dgH (hd4 1))).1 = tagP 6 (dgH (hd4 1)) := markP_6 len4a
 rw [h1, show (6 : Int).toNat = 6 from rfl]
 rw [List.all_eq_true]
 have hm := tagP_len 6 (dgH (hd4 1))
 intro n hn
 have hs := signs_has (tagP 6 (dgH (hd4 1))) hm [97, 98, 99] [] (by decide)
 simp only [List.mem_cons, List.not_mem_nil, or_false] at hn
 rcases hn with rfl | rfl | rfl
 ·exact signs_grows _ _ _ _ _ (hs 97 (by decide))
 ·exact signs_grows _ _ _ _ _ (hs 98 (by decide))
 ·exact signs_grows _ _ _ _ _ (hs 99 (by decide))
theorem signs_len (m : Bs) : ∀ (who : Bs) (L : List Sg), (signs m L who).length ≤ L.length + who.length
 | [], L => Nat.le_refl _
 | x :: r, L => by
  have h1 := signs_len m r (signL L [x] m true).1
  have h2 := signL_le L [x] m true
  simp only [signs, List.length_cons]
  omega
theorem tab4_b (l : List Bs) (hl : ∀ n ∈ l, n = [98] ∨ n = [99] ∨ n = [100]) : chkB tab4 (tagP (6 : Int).toNat (dgH (hd4 2))) l = true := by
 unfold chkB tab4
 have h1 : (markP 6 (dgH (hd4 2))).1 = tagP 6 (dgH (hd4 2)) := markP_6 len4b
 rw [h1, show (6 : Int).toNat = 6 from rfl]
 rw [List.all_eq_true]
 have hm := tagP_len 6 (dgH (hd4 2))
 have h3 := signs_len (markP 6 (dgH (hd4 1))).1 [97, 98, 99] []
 intro n hn
 have hs := signs_has (tagP 6 (dgH (hd4 2))) hm [98, 99, 100] (signs (markP 6 (dgH (hd4 1))).1 [] [97, 98, 99]) (by simp at h3 ⊢; omega)
 rcases hl n hn with rfl | rfl | rfl
 ·exact hs 98 (by decide)
 ·exact hs 99 (by decide)
 ·exact hs 100 (by decide)
theorem may4 (d : Bs) (l : List Bs) (hd : d.length = 32) (h7 : decide (l.length ≤ 7) = true) (ho : okS [] l = true) : mayC d l = true := by
 unfold mayC
 rw [hd, h7, ho]; rfl
theorem first4 : firstC 6 four4 true = 0 := by decide
theorem good4 {d : Bs} {l : List Bs} (hd : d.length = 32) (h7 : decide (l.length ≤ 7) = true) (ho : okS [] l = true) (ha : chkA four4 l = true) (hb : chkB tab4 (tagP (6 : Int).toNat d) l = true) :
  goodC 6 four4 d l tab4 = if ofM four4 l < quoM four4 then 71 else 0 := by
 rw [goodC_in (by rw [may4 d l hd h7 ho]; exact first4)]
 unfold goodIn
 rw [ha, hb]
 rfl
theorem good4a : goodC 6 four4 (dgH (hd4 1)) [[97], [98], [99]] tab4 = 0 := by
 rw [good4 len4a (by decide) (by decide) (by decide) tab4_a]; decide
theorem good4b : goodC 6 four4 (dgH (hd4 2)) [[98], [99], [100]] tab4 = 0 := by
 rw [good4 len4b (by decide) (by decide) (by decide) (tab4_b _ (by simp))]; decide
theorem few4b : goodC 6 four4 (dgH (hd4 2)) [[98], [99]] tab4 = 71 := by
 rw [good4 len4b (by decide) (by decide) (by decide) (tab4_b _ (by simp))]; decide
theorem codeW_4 (l : List Bs) : codeW four4 (hd4 1) (hd4 2) (dgH (hd4 1)) [[97], [98], [99]] (dgH (hd4 2)) l tab4 = goodC 6 four4 (dgH (hd4 2)) l tab4 := by
 unfold codeW
 rw [if_neg (by rw [show chkM four4 = true from by decide]; decide), if_neg (by rw [fine4a, fine4b]; decide)]
 rw [if_neg (fun h => h ⟨rfl, heads_differ, dgM_four.symm, dgM_four.symm⟩), if_neg (by simp), good4a, if_neg (by decide)]
theorem both4 : bothP [[97], [98], [99]] [[98], [99], [100]] = [[98], [99]] := by
 unfold bothP
 rw [show selP [[97], [98], [99]] [[98], [99], [100]] = [[98], [99]] from by decide, List.mergeSort_of_pairwise (by simp; decide)]
 decide
end Go.Proofs.YthkpmlfaddlieaaGreatDoor
namespace Go.Proofs.YthkpmlfaddlieaaGreatDoor
open Go.RowKit Go.Shelf Pl
def evcs (ms : Value) (A : Hd) (ka : Value) (B : Hd) (kb : Value) (d : Bs) (na : Value) (f : Bs) (nb : Value) : List Value := ms :: (hcs A ka ++ (hcs B kb ++ [.string ⟨d.toArray⟩, na, .string ⟨f.toArray⟩, nb]))
theorem ev_sub {w : World} {b : Nat} {ms : Value} {A : Hd} {ka : Value} {B : Hd} {kb : Value} {d : Bs} {na : Value} {f : Bs} {nb : Value} (h : Blk w b (evcs ms A ka B kb d na f nb).toArray) :
  w.rangeAt b 1 (hcs A ka) ∧ w.rangeAt b 12 (hcs B kb) ∧ w.rangeAt b 23 [.string ⟨d.toArray⟩, na] ∧ w.rangeAt b 25 [.string ⟨f.toArray⟩, nb] := by
 have hr : w.rangeAt b 0 (evcs ms A ka B kb d na f nb) := h.range
 have key : ∀ (k : Nat) (ds : List Value), (∀ j v, ds[j]? = some v → (evcs ms A ka B kb d na f nb)[k + j]? = some v) → w.rangeAt b k ds := fun k ds hd => by
  have := rg_sub hr k hd
  rwa [Nat.zero_add] at this
 refine ⟨key 1 _ fun j v hj => ?_, key 12 _ fun j v hj => ?_, key 23 _ fun j v hj => ?_, key 25 _ fun j v hj => ?_⟩
 ·have hl := (List.getElem?_eq_some_iff.1 hj).1
  unfold evcs
  rw [Nat.add_comm, List.getElem?_cons_succ, List.getElem?_append_left hl]
  exact hj
 ·have hl := (List.getElem?_eq_some_iff.1 hj).1
  unfold evcs
  rw [show 12 + j = (11 + j) + 1 from by omega, List.getElem?_cons_succ, List.getElem?_append_right (by simp [hcs]), show 11 + j - (hcs A ka).length = j from by simp [hcs], List.getElem?_append_left hl]
  exact hj
 ·unfold evcs
  rw [show 23 + j = (22 + j) + 1 from by omega, List.getElem?_cons_succ, List.getElem?_append_right (by simp [hcs]; omega), List.getElem?_append_right (by simp [hcs]; omega)]
  rw [show 22 + j - (hcs A ka).length - (hcs B kb).length = j from by simp [hcs]; omega]
  rcases j with _ | _ | j <;> simp at hj ⊢ <;> exact hj
 ·unfold evcs
  rw [show 25 + j = (24 + j) + 1 from by omega, List.getElem?_cons_succ, List.getElem?_append_right (by simp [hcs]; omega), List.getElem?_append_right (by simp [hcs]; omega)]
  rw [show 24 + j - (hcs A ka).length - (hcs B kb).length = j + 2 from by simp [hcs]; omega]
  rcases j with _ | _ | j <;> simp at hj ⊢ <;> exact hj
theorem sdcs_one (h : Hd) (a b : Option Addr) (n c m e : Nat) (d : Bs) : ∀ u ∈ sdcs h (.slice a n c) d (.slice b m e), u.oneCell' = true := by
 intro u hu
 simp only [sdcs, List.mem_cons, List.not_mem_nil, or_false] at hu
 rcases hu with rfl | rfl | rfl | rfl | rfl | rfl | rfl | rfl | rfl | rfl | rfl | rfl | rfl <;> rfl
def zsd : List Value := sdcs hdZ (.slice none 0 0) [] (.slice none 0 0)
theorem two_range {w : World} {b : Nat} {us vs : List Value} (h : Blk w b (us ++ vs).toArray) (hl : us.length = 13 := by rfl) : w.rangeAt b 0 us ∧ w.rangeAt b 13 vs := by
 have hr : w.rangeAt b 0 (us ++ vs) := h.range
 refine ⟨fun j v hj => hr j v (by rw [List.getElem?_append_left (List.getElem?_eq_some_iff.1 hj).1]; exact hj), ?_⟩
 have := rg_sub (ds := vs) hr 13 (fun j v hj => by rw [List.getElem?_append_right (by omega), show 13 + j - us.length = j from by omega]; exact hj)
 rwa [Nat.zero_add] at this
theorem sd_cert {w : World} {b : Nat} {h : Hd} {k : Value} {d : Bs} {ns : Value} (hB : Blk w b (sdcs h k d ns).toArray) : w.rangeAt b 11 [.string ⟨d.toArray⟩, ns] := by
 have hr : w.rangeAt b 0 (sdcs h k d ns) := hB.range
 have := rg_sub (ds := [.string ⟨d.toArray⟩, ns]) hr 11 (fun j v hj => by rcases j with _ | _ | j <;> simp at hj ⊢ <;> (subst hj; rfl))
 rwa [Nat.zero_add] at this
theorem good_shortW {tag : Int} {l : List (Bs × Int)} {d : Bs} {ns : List Bs} {L : List Sg} (h : goodC tag l d ns L = 0) : ns.length ≤ 7 ∧ ∀ i, i < ns.length → (ns.getD i []).length ≤ 6 := by
 obtain ⟨h1, _⟩ := good_parts h
 obtain ⟨hm, _, _⟩ := first_zero h1
 obtain ⟨_, p2, _, p4⟩ := mayC_parts hm
 exact ⟨p2, p4⟩
theorem fits_iff (A B : Hd) (s : Bs) : fitsW A B s = true ↔ (A.height = B.height ∧ dgH A ≠ dgH B ∧ A.members = s ∧ B.members = s) := by
 unfold fitsW
 simp only [Bool.and_eq_true, decide_eq_true_eq, Bool.not_eq_true', decide_eq_false_iff_not]
 exact ⟨fun h => ⟨h.1.1.1, h.1.1.2, h.1.2, h.2⟩, fun h => ⟨⟨⟨h.1, h.2.1⟩, h.2.2.1⟩, h.2.2.2⟩⟩
theorem codeW_four {l : List (Bs × Int)} {A B : Hd} {d f : Bs} {nA nB : List Bs} {T : List Sg} (hc : chkM l = true) (fA : fineH A = true) (fB : fineH B = true) (h : fitsW A B (dgM l) = false) : codeW l A B d nA f nB T = 4 := by
 unfold codeW
 rw [if_neg (by rw [hc]; decide), if_neg (by rw [fA, fB]; decide), if_pos]
 intro hh
 rw [(fits_iff A B (dgM l)).2 hh] at h
 cases h
theorem codeW_rest {l : List (Bs × Int)} {A B : Hd} {d f : Bs} {nA nB : List Bs} {T : List Sg} (hc : chkM l = true) (fA : fineH A = true) (fB : fineH B = true) (h : fitsW A B (dgM l) = true) :
  codeW l A B d nA f nB T = if d ≠ dgH A ∨ f ≠ dgH B then 360 else if goodC 6 l d nA T ≠ 0 then goodC 6 l d nA T else goodC 6 l f nB T := by
 unfold codeW
 rw [if_neg (by rw [hc]; decide), if_neg (by rw [fA, fB]; decide), if_neg (by rw [Classical.not_not]; exact (fits_iff A B (dgM l)).1 h)]
theorem wcheck_any (l : List (Bs × Int)) (A B : Hd) (d f : Bs) (nA nB : List Bs) (ms : Value) (ka kb na nb : Option Addr) (kc kd nc nd : Nat) (base p : Nat) (T : List Sg) (w : World)
  (hm : MS w ms l) (hA : SS w (.slice ka A.skips.length kc) A.skips) (hB : SS w (.slice kb B.skips.length kd) B.skips) (hna : SS w (.slice na nA.length nc) nA) (hnb : SS w (.slice nb nB.length nd) nB) (hT : Tab w base p T) (hk : KT w) :
  Calls Tryz.prog 10 #[.agg (evcs ms A (.slice ka A.skips.length kc) B (.slice kb B.skips.length kd) d (.slice na nA.length nc) f (.slice nb nB.length nd)).toArray, .pointer (some ⟨p, 0, none⟩)] w fun e w' =>
   ∃ v, e = .returned (.tuple #[v, .int .i64 (codeW l A B d nA f nB T)]) ∧ (codeW l A B d nA f nB T = 0 → SRow w' w.heap.size v (bothP nA nB)) ∧ (codeW l A B d nA f nB T ≠ 0 → v = .slice none 0 0) ∧ Below w.heap.size w w' := by
 obtain ⟨ma, mc, rfl⟩ := hm.form
 have B0 : Blk (w.alloc (.cells (evcs (.slice ma l.length mc) A (.slice ka A.skips.length kc) B (.slice kb B.skips.length kd) d (.slice na nA.length nc) f (.slice nb nB.length nd)).toArray 54)) w.heap.size (evcs (.slice ma l.length mc) A (.slice ka A.skips.length kc) B (.slice kb B.skips.length kd) d (.slice na nA.length nc) f (.slice nb nB.length nd)).toArray := Blk.new _ _ _
 have hb0 : Below w.heap.size w (w.alloc (.cells (evcs (.slice ma l.length mc) A (.slice ka A.skips.length kc) B (.slice kb B.skips.length kd) d (.slice na nA.length nc) f (.slice nb nB.length nd)).toArray 54)) := Below.allocS (Below.refl _ _) _
 have q1 := mcheck_any _ l _ (hm.keep hb0)
 have HM := Lib.hid hm
 have HA := Lib.hid hA
 have HB := Lib.hid hB
 have HNA := Lib.hid hna
 have HNB := Lib.hid hnb
 have HT := Lib.hid hT
 clear hm hA hB hna hnb hT
 generalize hR : codeW l A B d nA f nB T = R
 have HR := Lib.hid hR
 clear hR
 generalize hW : w.alloc (.cells (evcs (.slice ma l.length mc) A (.slice ka A.skips.length kc) B (.slice kb B.skips.length kd) d (.slice na nA.length nc) f (.slice nb nB.length nd)).toArray 54) = W at *
 have c0 := B0.cell 0
 simp only [evcs, List.getElem?_toArray, List.getElem?_cons_zero] at c0
 have HQA := Lib.hid (fun (X : World) (hX : Below w.heap.size w X) => hd_check A.height A.epoch A.view A.last A.parent A.state A.receipts A.txs A.members A.next A.skips (.slice ka A.skips.length kc) X (HA.out.keep hX))
 have HQB := Lib.hid (fun (X : World) (hX : Below w.heap.size w X) => hd_check B.height B.epoch B.view B.last B.parent B.state B.receipts B.txs B.members B.next B.skips (.slice kb B.skips.length kd) X (HB.out.keep hX))
 have HV := Lib.hid (ev_sub B0)
 cases hcm : chkM l
 ·have HZ : Hid (R = 50) := Lib.hid (by rw [← HR.out]; unfold codeW; rw [hcm]; rfl)
  rw [hcm, show setI false = 50 from rfl] at q1
  clear HR hcm HQA HQB HV
  go_enter Tryz.func10, Tryz.ntmps10
  go_wp2_with fail
  refine q1.mono ?_
  rintro e w1 ⟨rfl, hb⟩
  have hb1 := hb0.trans (hb.mono hb0.size)
  go_wp2_with fail
  all_goals (go_ret2; exact ⟨_, by rw [HZ.out]; rfl, fun h => absurd h (by rw [HZ.out]; decide), fun _ => rfl, hb1⟩)
 ·rw [hcm, show setI true = 0 from rfl] at q1
  go_enter Tryz.func10, Tryz.ntmps10
  go_wp2_with fail
  refine q1.mono ?_
  rintro e w1 ⟨rfl, hb⟩
  have hb1 := hb0.trans (hb.mono hb0.size)
  have B1 := B0.keep hb
  clear q1 c0 B0 hb0 hb
  go_wp2_with fail
  refine wp_region_ex (ι := Nat × Nat)
   (fun i a => ((((((((((((a.put (some 21) (.pointer (some ⟨w.heap.size, 1, none⟩))).put (some 22) (.agg (hcs A (.slice ka A.skips.length kc)).toArray)).put (some 23) (.pointer (some ⟨w.heap.size, 23, none⟩))).put (some 24) (.agg #[.string ⟨d.toArray⟩, .slice na nA.length nc])).put (some 25) (.agg (sdcs A (.slice ka A.skips.length kc) d (.slice na nA.length nc)).toArray)).put (some 26) (.pointer (some ⟨w.heap.size, 12, none⟩))).put (some 27) (.agg (hcs B (.slice kb B.skips.length kd)).toArray)).put (some 28) (.pointer (some ⟨w.heap.size, 25, none⟩))).put (some 29) (.agg #[.string ⟨f.toArray⟩, .slice nb nB.length nd])).put (some 30) (.agg (sdcs B (.slice kb B.skips.length kd) f (.slice nb nB.length nd)).toArray)).put (some 7) (.pointer (some ⟨i.1, 0, none⟩))).put (some 8) (.pointer (some ⟨i.2, 0, none⟩))))
   (fun i w' => Blk w' i.1 (sdcs A (.slice ka A.skips.length kc) d (.slice na nA.length nc)).toArray ∧ Blk w' i.2 (sdcs B (.slice kb B.skips.length kd) f (.slice nb nB.length nd)).toArray ∧ Below w1.heap.size w1 w') ?_ ?_
  ·skip
   refine wpH_startB (w1.heap.size) (by kernel_rfl) (fun hS => ?_)
   (refine hP 0 ?_ ⟨some 21, .fieldAddr 54 (.tmp 2) 1, 0, "", #[], none⟩ hS ?_ ?_; rotate_left; focus (intro w; go_simp; try with_reducible rfl))
   try simp only [pna, pnb, pnc, pnd, pne]
   refine wpH_load 1 (.agg (hcs A (.slice ka A.skips.length kc)).toArray) (oi := ⟨some 22,.load 48 (.tmp 21),48,"witness.go:66",#[⟨0,.data⟩],none⟩) rfl (by kernel_rfl) (by kernel_rfl) (by kernel_rfl) (by rfl) hS (fun _ _ _ h => h) (fun w' hb2 => exec_rowR row_head (.tmp 21) rfl rfl rfl (ev_sub (B1.keep hb2)).1) ?_
   try simp only [pna, pnb, pnc, pnd, pne]
   (refine hP 2 ?_ ⟨some 23, .fieldAddr 54 (.tmp 2) 3, 0, "", #[], none⟩ hS ?_ ?_; rotate_left; focus (intro w; go_simp; try with_reducible rfl))
   try simp only [pna, pnb, pnc, pnd, pne]
   refine wpH_load 3 (.agg #[.string ⟨d.toArray⟩, .slice na nA.length nc]) (oi := ⟨some 24,.load 37 (.tmp 23),37,"witness.go:66",#[⟨2,.data⟩],none⟩) rfl (by kernel_rfl) (by kernel_rfl) (by kernel_rfl) (by rfl) hS (fun _ _ _ h => h) (fun w' hb2 => exec_rowR row_cert (.tmp 23) rfl rfl rfl (ev_sub (B1.keep hb2)).2.2.1) ?_
   try simp only [pna, pnb, pnc, pnd, pne]
   refine wpH_load 4 (.agg (sdcs A (.slice ka A.skips.length kc) d (.slice na nA.length nc)).toArray) (oi := ⟨some 25,.build 93 #[(0, .tmp 22), (1, .tmp 24)],93,"witness.go:66",#[⟨1,.data⟩, ⟨3,.data⟩],none⟩) rfl (by kernel_rfl) (by kernel_rfl) (by kernel_rfl) (by rfl) hS (fun _ _ _ h => h) (fun w' _ => (by simp only [hcs, sdcs]; go_simp; try rfl)) ?_
   try simp only [pna, pnb, pnc, pnd, pne]
   (refine hP 5 ?_ ⟨some 26, .fieldAddr 54 (.tmp 2) 2, 0, "", #[], none⟩ hS ?_ ?_; rotate_left; focus (intro w; go_simp; try with_reducible rfl))
   try simp only [pna, pnb, pnc, pnd, pne]
   refine wpH_load 6 (.agg (hcs B (.slice kb B.skips.length kd)).toArray) (oi := ⟨some 27,.load 48 (.tmp 26),48,"witness.go:66",#[⟨5,.data⟩, { on := 12, ground := .gcOnly Departure.lateStores }],none⟩) rfl (by kernel_rfl) (by kernel_rfl) (by kernel_rfl) (by rfl) hS (fun _ _ _ h => h) (fun w' hb2 => exec_rowR row_head (.tmp 26) rfl rfl rfl (ev_sub (B1.keep hb2)).2.1) ?_
   try simp only [pna, pnb, pnc, pnd, pne]
   (refine hP 7 ?_ ⟨some 28, .fieldAddr 54 (.tmp 2) 4, 0, "", #[], none⟩ hS ?_ ?_; rotate_left; focus (intro w; go_simp; try with_reducible rfl))
   try simp only [pna, pnb, pnc, pnd, pne]
   refine wpH_load 8 (.agg #[.string ⟨f.toArray⟩, .slice nb nB.length nd]) (oi := ⟨some 29,.load 37 (.tmp 28),37,"witness.go:66",#[⟨7,.data⟩, { on := 12, ground := .gcOnly Departure.lateStores }],none⟩) rfl (by kernel_rfl) (by kernel_rfl) (by kernel_rfl) (by rfl) hS (fun _ _ _ h => h) (fun w' hb2 => exec_rowR row_cert (.tmp 28) rfl rfl rfl (ev_sub (B1.keep hb2)).2.2.2) ?_
   try simp only [pna, pnb, pnc, pnd, pne]
   refine wpH_load 9 (.agg (sdcs B (.slice kb B.skips.length kd) f (.slice nb nB.length nd)).toArray) (oi := ⟨some 30,.build 93 #[(0, .tmp 27), (1, .tmp 29)],93,"witness.go:66",#[⟨6,.data⟩, ⟨8,.data⟩, { on := 12, ground := .gcOnly Departure.lateStores }],none⟩) rfl (by kernel_rfl) (by kernel_rfl) (by kernel_rfl) (by rfl) hS (fun _ _ _ h => h) (fun w' _ => (by simp only [hcs, sdcs]; go_simp; try rfl)) ?_
   try simp only [pna, pnb, pnc, pnd, pne]
   refine wpAnyH_all (rs := [10, 11]) (by kernel_rfl) (by simp) (fun jj hjj => ?_)
   simp only [List.mem_cons, List.not_mem_nil, or_false] at hjj
   rcases hjj with rfl | rfl
   refine wpO_op (oi := ⟨some 7,.alloc 93,0,"witness.go:66",#[],none⟩) rfl (by rfl) ?_
   have hq1 := hS.size
   refine wp_allocK 93 rfl zsd.toArray (fun w => by go_simp; try rfl) (fun k1 w' hk1 KA hbk => ?_)
   (try replace KB := KB.keep hbk)
   refine ⟨hS.trans (hbk.mono hS.size), ?_⟩
   replace hS := hS.trans (hbk.mono hS.size)
   have hz1 := KA.lt
   try simp only [pna, pnb, pnc, pnd, pne]
   refine wpH_op 11 (oi := ⟨some 8,.alloc 93,0,"witness.go:66",#[],none⟩) rfl (by kernel_rfl) (by rfl) ?_
   have hq2 := hS.size
   refine wp_allocK 93 rfl zsd.toArray (fun w => by go_simp; try rfl) (fun k2 w' hk2 KB hbk => ?_)
   (try replace KA := KA.keep hbk)
   refine ⟨hS.trans (hbk.mono hS.size), ?_⟩
   replace hS := hS.trans (hbk.mono hS.size)
   have hz2 := KB.lt
   try simp only [pna, pnb, pnc, pnd, pne]
   refine wpH_op 12 (oi := ⟨none,.store 93 (.tmp 7) (.tmp 25),0,"witness.go:66",#[⟨10,.data⟩, ⟨4,.data⟩, ⟨0,.phase⟩, ⟨1,.phase⟩, ⟨2,.phase⟩, ⟨3,.phase⟩, ⟨4,.phase⟩, { on := 5, ground := .textOnly Departure.lateStores }, { on := 6, ground := .textOnly Departure.lateStores }, { on := 7, ground := .textOnly Departure.lateStores }, { on := 8, ground := .textOnly Departure.lateStores }, { on := 9, ground := .textOnly Departure.lateStores }, ⟨10,.phase⟩, ⟨11,.phase⟩],none⟩) rfl (by kernel_rfl) (by rfl) ?_
   refine wp_rowS row_side (.tmp 7) (.tmp 25) rfl rfl rfl (vs := sdcs A (.slice ka A.skips.length kc) d (.slice na nA.length nc)) rfl (sdcs_one _ _ _ _ _ _ _ _) (us := zsd) rfl KA ?_
   intro w3 N1 m1
   replace KB := KB.mod m1 (by simp; omega)
   have hS1 := Below.mod hS m1 hS.size (by simp; omega)
   refine ⟨hS1, ?_⟩
   clear hS
   have hS := hS1
   try simp only [pna, pnb, pnc, pnd, pne]
   refine wpH_op 13 (oi := ⟨none,.store 93 (.tmp 8) (.tmp 30),0,"witness.go:66",#[⟨11,.data⟩, ⟨9,.data⟩, ⟨12,.chain⟩, ⟨0,.phase⟩, ⟨1,.phase⟩, ⟨2,.phase⟩, ⟨3,.phase⟩, ⟨4,.phase⟩, ⟨5,.phase⟩, ⟨6,.phase⟩, ⟨7,.phase⟩, ⟨8,.phase⟩, ⟨9,.phase⟩, ⟨10,.phase⟩, ⟨11,.phase⟩, ⟨12,.phase⟩],none⟩) rfl (by kernel_rfl) (by rfl) ?_
   refine wp_rowS row_side (.tmp 8) (.tmp 30) rfl rfl rfl (vs := sdcs B (.slice kb B.skips.length kd) f (.slice nb nB.length nd)) rfl (sdcs_one _ _ _ _ _ _ _ _) (us := zsd) rfl KB ?_
   intro w4 N2 m2
   replace N1 := N1.mod m2 (by simp; omega)
   have hS2 := Below.mod hS m2 hS.size (by simp; omega)
   refine ⟨hS2, ?_⟩
   clear hS
   have hS := hS2
   try simp only [pna, pnb, pnc, pnd, pne]
   refine wpAnyH_done (by kernel_rfl) ?_ _
   unfold NormQ
   refine ⟨⟨_, _⟩, ?_, N1, N2, hS⟩
   (try simp only [pna, pnb, pnc, pnd, pne])
   refine wpO_op (oi := ⟨some 8,.alloc 93,0,"witness.go:66",#[],none⟩) rfl (by rfl) ?_
   have hq2 := hS.size
   refine wp_allocK 93 rfl zsd.toArray (fun w => by go_simp; try rfl) (fun k2 w' hk2 KB hbk => ?_)
   (try replace KA := KA.keep hbk)
   refine ⟨hS.trans (hbk.mono hS.size), ?_⟩
   replace hS := hS.trans (hbk.mono hS.size)
   have hz2 := KB.lt
   try simp only [pna, pnb, pnc, pnd, pne]
   refine wpH_op 10 (oi := ⟨some 7,.alloc 93,0,"witness.go:66",#[],none⟩) rfl (by kernel_rfl) (by rfl) ?_
   have hq1 := hS.size
   refine wp_allocK 93 rfl zsd.toArray (fun w => by go_simp; try rfl) (fun k1 w' hk1 KA hbk => ?_)
   (try replace KB := KB.keep hbk)
   refine ⟨hS.trans (hbk.mono hS.size), ?_⟩
   replace hS := hS.trans (hbk.mono hS.size)
   have hz1 := KA.lt
   try simp only [pna, pnb, pnc, pnd, pne]
   refine wpH_op 12 (oi := ⟨none,.store 93 (.tmp 7) (.tmp 25),0,"witness.go:66",#[⟨10,.data⟩, ⟨4,.data⟩, ⟨0,.phase⟩, ⟨1,.phase⟩, ⟨2,.phase⟩, ⟨3,.phase⟩, ⟨4,.phase⟩, { on := 5, ground := .textOnly Departure.lateStores }, { on := 6, ground := .textOnly Departure.lateStores }, { on := 7, ground := .textOnly Departure.lateStores }, { on := 8, ground := .textOnly Departure.lateStores }, { on := 9, ground := .textOnly Departure.lateStores }, ⟨10,.phase⟩, ⟨11,.phase⟩],none⟩) rfl (by kernel_rfl) (by rfl) ?_
   refine wp_rowS row_side (.tmp 7) (.tmp 25) rfl rfl rfl (vs := sdcs A (.slice ka A.skips.length kc) d (.slice na nA.length nc)) rfl (sdcs_one _ _ _ _ _ _ _ _) (us := zsd) rfl KA ?_
   intro w3 N1 m1
   replace KB := KB.mod m1 (by simp; omega)
   have hS1 := Below.mod hS m1 hS.size (by simp; omega)
   refine ⟨hS1, ?_⟩
   clear hS
   have hS := hS1
   try simp only [pna, pnb, pnc, pnd, pne]
   refine wpH_op 13 (oi := ⟨none,.store 93 (.tmp 8) (.tmp 30),0,"witness.go:66",#[⟨11,.data⟩, ⟨9,.data⟩, ⟨12,.chain⟩, ⟨0,.phase⟩, ⟨1,.phase⟩, ⟨2,.phase⟩, ⟨3,.phase⟩, ⟨4,.phase⟩, ⟨5,.phase⟩, ⟨6,.phase⟩, ⟨7,.phase⟩, ⟨8,.phase⟩, ⟨9,.phase⟩, ⟨10,.phase⟩, ⟨11,.phase⟩, ⟨12,.phase⟩],none⟩) rfl (by kernel_rfl) (by rfl) ?_
   refine wp_rowS row_side (.tmp 8) (.tmp 30) rfl rfl rfl (vs := sdcs B (.slice kb B.skips.length kd) f (.slice nb nB.length nd)) rfl (sdcs_one _ _ _ _ _ _ _ _) (us := zsd) rfl KB ?_
   intro w4 N2 m2
   replace N1 := N1.mod m2 (by simp; omega)
   have hS2 := Below.mod hS m2 hS.size (by simp; omega)
   refine ⟨hS2, ?_⟩
   clear hS
   have hS := hS2
   try simp only [pna, pnb, pnc, pnd, pne]
   refine wpAnyH_done (by kernel_rfl) ?_ _
   unfold NormQ
   refine ⟨⟨_, _⟩, ?_, N1, N2, hS⟩
   (try simp only [pna, pnb, pnc, pnd, pne])
  rintro ⟨k1, k2⟩ w2 ⟨K1, K2, hb⟩
  try simp only [pna, pnb, pnc, pnd, pne]
  have hb2 := hb1.trans (hb.mono hb1.size)
  have HB1 := Lib.hid B1
  have hbw := hb
  clear hb
  have r1 := HQA.out w2 hb2
  clear B1
  cases hfA : fineH A
  ·have HZ : Hid (R = 190) := Lib.hid (by rw [← HR.out]; unfold codeW; rw [hcm, hfA]; rfl)
   rw [show fineH (⟨A.height, A.epoch, A.view, A.last, A.parent, A.state, A.receipts, A.txs, A.members, A.next, A.skips⟩ : Hd) = false from hfA, show codeH false = 190 from rfl] at r1
   clear HR hcm hfA HQA HQB HV
   go_wp2_with (first | (refine wpList_rowR row_head rfl (.tmp 31) rfl rfl rfl (sd_head K1) ?_) | fail)
   refine r1.mono ?_
   rintro e w3 ⟨rfl, hb⟩
   have hb3 := hb2.trans (hb.mono hb2.size)
   go_wp2_with fail
   all_goals (go_ret2; exact ⟨_, by rw [HZ.out]; rfl, fun h => absurd h (by rw [HZ.out]; decide), fun _ => rfl, hb3⟩)
  rw [show fineH (⟨A.height, A.epoch, A.view, A.last, A.parent, A.state, A.receipts, A.txs, A.members, A.next, A.skips⟩ : Hd) = true from hfA, show codeH true = 0 from rfl] at r1
  go_wp2_with (first | (refine wpList_rowR row_head rfl (.tmp 31) rfl rfl rfl (sd_head K1) ?_) | fail)
  refine r1.mono ?_
  rintro e w3 ⟨rfl, hb⟩
  have hb3 := hb2.trans (hb.mono hb2.size)
  have K13 := K1.keep hb
  have K23 := K2.keep hb
  have hbw3 := hbw.trans (hb.mono hbw.size)
  have r2 := HQB.out w3 hb3
  clear r1 hb hb2 K1 K2 hbw
  cases hfB : fineH B
  ·have HZ : Hid (R = 190) := Lib.hid (by rw [← HR.out]; unfold codeW; rw [hcm, hfA, hfB]; rfl)
   rw [show fineH (⟨B.height, B.epoch, B.view, B.last, B.parent, B.state, B.receipts, B.txs, B.members, B.next, B.skips⟩ : Hd) = false from hfB, show codeH false = 190 from rfl] at r2
   clear HR hcm hfA hfB HQA HQB HV
   go_wp2_with (first | (refine wpList_rowRG row_head (by rfl) (.tmp 36) rfl rfl rfl (sd_head K23) ?_) | fail)
   refine r2.mono ?_
   rintro e w4 ⟨rfl, hb⟩
   have hb4 := hb3.trans (hb.mono hb3.size)
   go_wp2_with fail
   all_goals (go_ret2; exact ⟨_, by rw [HZ.out]; rfl, fun h => absurd h (by rw [HZ.out]; decide), fun _ => rfl, hb4⟩)
  rw [show fineH (⟨B.height, B.epoch, B.view, B.last, B.parent, B.state, B.receipts, B.txs, B.members, B.next, B.skips⟩ : Hd) = true from hfB, show codeH true = 0 from rfl] at r2
  go_wp2_with (first | (refine wpList_rowRG row_head (by rfl) (.tmp 36) rfl rfl rfl (sd_head K23) ?_) | fail)
  refine r2.mono ?_
  rintro e w4 ⟨rfl, hb⟩
  have hb4 := hb3.trans (hb.mono hb3.size)
  have K14 := K13.keep hb
  have K24 := K23.keep hb
  have hbw4 := hbw3.trans (hb.mono hbw3.size)
  have B14 := HB1.out.keep hbw4
  clear r2 hb hb3 K13 K23 hbw3 HB1
  have c0 := B14.cell 0
  simp only [evcs, List.getElem?_toArray, List.getElem?_cons_zero] at c0
  have q7 := fun (X : World) (hX : Below w.heap.size w X) => mdigest_any (.slice ma l.length mc) l X (HM.out.keep hX) (hk.keep hX)
  have q8 := fun (X : World) (hX : Below w.heap.size w X) => wfits_any A B ka kb kc kd d f (.slice na nA.length nc) (.slice nb nB.length nd) (dgM l) X (HA.out.keep hX) (HB.out.keep hX) (hk.keep hX)
  have h14 : w.heap.size < w4.heap.size := B14.lt
  have HFW := Lib.hid (fits_iff A B (dgM l))
  cases hfw : fitsW A B (dgM l)
  ·have HZ : Hid (R = 4) := Lib.hid (by rw [← HR.out]; exact codeW_four hcm hfA hfB hfw)
   rw [hfw] at q8
   clear HR hcm hfA hfB HQA HQB HV hfw HFW
   go_wp2_with fail
   refine wp_held rfl (by kernel_rfl) ?_
   refine wpQ_row row_side (by rfl) (.tmp 7) rfl rfl (vs := sdcs A (.slice ka A.skips.length kc) d (.slice na nA.length nc)) (rfl) (fun w' hb2 => K14.keep hb2) ?_
   try simp only [pna, pnb, pnc, pnd, pne]
   refine wpQ_row row_side (by rfl) (.tmp 8) rfl rfl (vs := sdcs B (.slice kb B.skips.length kd) f (.slice nb nB.length nd)) (rfl) (fun w' hb2 => K24.keep hb2) ?_
   try simp only [pna, pnb, pnc, pnd, pne]
   (refine qP ?_ ?_ ?_; rotate_left; focus (intro w; go_simp; try with_reducible rfl))
   try simp only [pna, pnb, pnc, pnd, pne]
   refine wpQ_load (by rfl) (.slice ma l.length mc) (fun w' hb2 => (by have c := (hb2.cell (p := ⟨w.heap.size, 0, none⟩) h14).trans c0; go_simp; try rfl)) ?_
   try simp only [pna, pnb, pnc, pnd, pne]
   refine wpQ_call (by rfl) _ _ (.string ⟨List.toArray (dgM l)⟩) (fun w' hb => (q7 w' (hb4.trans (hb.mono hb4.size))).mono fun _ _ ⟨he, h4⟩ => ⟨he, hb.trans (h4.mono hb.size)⟩) (by intro w; go_simp; try rfl) ?_
   try simp only [pna, pnb, pnc, pnd, pne]
   refine wpQ_call (by rfl) _ _ (.bool false) (fun w' hb => (q8 w' (hb4.trans (hb.mono hb4.size))).mono fun _ _ ⟨he, h4⟩ => ⟨he, hb.trans (h4.mono hb.size)⟩) (by intro w; go_simp; try rfl) ?_
   try simp only [pna, pnb, pnc, pnd, pne]
   (refine qP ?_ ?_ ?_; rotate_left; focus (intro w; go_simp; try with_reducible rfl))
   try simp only [pna, pnb, pnc, pnd, pne]
   intro w5 hS
   have hb5 := hb4.trans (hS.mono hb4.size)
   go_wp2_with fail
   all_goals (go_ret2; exact ⟨_, by rw [HZ.out]; rfl, fun h => absurd h (by rw [HZ.out]; decide), fun _ => rfl, hb5⟩)
  rw [hfw] at q8
  go_wp2_with fail
  refine wp_held rfl (by kernel_rfl) ?_
  refine wpQ_row row_side (by rfl) (.tmp 7) rfl rfl (vs := sdcs A (.slice ka A.skips.length kc) d (.slice na nA.length nc)) (rfl) (fun w' hb2 => K14.keep hb2) ?_
  try simp only [pna, pnb, pnc, pnd, pne]
  refine wpQ_row row_side (by rfl) (.tmp 8) rfl rfl (vs := sdcs B (.slice kb B.skips.length kd) f (.slice nb nB.length nd)) (rfl) (fun w' hb2 => K24.keep hb2) ?_
  try simp only [pna, pnb, pnc, pnd, pne]
  (refine qP ?_ ?_ ?_; rotate_left; focus (intro w; go_simp; try with_reducible rfl))
  try simp only [pna, pnb, pnc, pnd, pne]
  refine wpQ_load (by rfl) (.slice ma l.length mc) (fun w' hb2 => (by have c := (hb2.cell (p := ⟨w.heap.size, 0, none⟩) h14).trans c0; go_simp; try rfl)) ?_
  try simp only [pna, pnb, pnc, pnd, pne]
  refine wpQ_call (by rfl) _ _ (.string ⟨List.toArray (dgM l)⟩) (fun w' hb => (q7 w' (hb4.trans (hb.mono hb4.size))).mono fun _ _ ⟨he, h4⟩ => ⟨he, hb.trans (h4.mono hb.size)⟩) (by intro w; go_simp; try rfl) ?_
  try simp only [pna, pnb, pnc, pnd, pne]
  refine wpQ_call (by rfl) _ _ (.bool true) (fun w' hb => (q8 w' (hb4.trans (hb.mono hb4.size))).mono fun _ _ ⟨he, h4⟩ => ⟨he, hb.trans (h4.mono hb.size)⟩) (by intro w; go_simp; try rfl) ?_
  try simp only [pna, pnb, pnc, pnd, pne]
  (refine qP ?_ ?_ ?_; rotate_left; focus (intro w; go_simp; try with_reducible rfl))
  try simp only [pna, pnb, pnc, pnd, pne]
  intro w5 hS
  have hb5 := hb4.trans (hS.mono hb4.size)
  have K15 := K14.keep hS
  have K25 := K24.keep hS
  have B15 := B14.keep hS
  have c5 := (hS.cell (p := ⟨w.heap.size, 0, none⟩) h14).trans c0
  clear q7 q8 K14 K24 B14 c0 hS hb4 h14
  go_wp2_with (first
   | (refine wpList_rowLoad row_side rfl (.tmp 7) rfl rfl (vs := sdcs A (.slice ka A.skips.length kc) d (.slice na nA.length nc)) rfl K15 ?_)
   | (refine wpList_rowLoad row_side rfl (.tmp 8) rfl rfl (vs := sdcs B (.slice kb B.skips.length kd) f (.slice nb nB.length nd)) rfl K25 ?_; simp only [sdcs])
   | fail)
  obtain ⟨W6, hW6⟩ : ∃ W, W = w5.alloc (.cells (sdcs A (.slice ka A.skips.length kc) d (.slice na nA.length nc) ++ sdcs B (.slice kb B.skips.length kd) f (.slice nb nB.length nd)).toArray 93) := ⟨_, rfl⟩
  have hb56 : Below w5.heap.size w5 W6 := by rw [hW6]; exact Below.allocS (Below.refl _ _) _
  have R6 : Blk W6 w5.heap.size (sdcs A (.slice ka A.skips.length kc) d (.slice na nA.length nc) ++ sdcs B (.slice kb B.skips.length kd) f (.slice nb nB.length nd)).toArray := by rw [hW6]; exact Blk.new _ _ _
  have HRG := Lib.hid (fun (X : World) (hX : Below W6.heap.size W6 X) => two_range (R6.keep hX))
  have hb6 := hb5.trans (hb56.mono hb5.size)
  have K16 := K15.keep hb56
  have K26 := K25.keep hb56
  have B16 := B15.keep hb56
  simp only [sdcs, List.cons_append, List.nil_append] at hW6
  rw [← hW6]
  clear hW6 hb56 K15 K25 B15 c5 R6
  go_loopw [53] (fun s53 wr => ∃ i : Nat, s53 = .int .i64 i ∧ i ≤ 2 ∧ Hid ((0 < i → d = dgH A) ∧ (1 < i → f = dgH B)) ∧ Below W6.heap.size W6 wr) (fun s53 _ => 2 - (intOf s53).toNat)
  case atStart => exact ⟨0, rfl, by omega, Lib.hid ⟨fun h => absurd h (by omega), fun h => absurd h (by omega)⟩, Below.refl _ _⟩
  case round =>
   obtain ⟨i, rfl, hi, HD, hbr⟩ := hrel
   rcases (show i = 0 ∨ i = 1 ∨ i = 2 by omega) with rfl | rfl | rfl
   ·have hRx := HRG.out wr hbr
    go_wp2_with (first
     | (refine wpList_rowR row_side rfl (.tmp 55) rfl rfl rfl hRx.1 ?_)
     | (refine wpList_rowStore row_side rfl rfl (.tmp 11) (.tmp 56) rfl rfl rfl (vs := sdcs A (.slice ka A.skips.length kc) d (.slice na nA.length nc)) rfl (sdcs_one _ _ _ _ _ _ _ _) (us := [.int .i64 0, .int .i64 0, .int .i64 0, .bool false, .string ⟨List.toArray []⟩, .string ⟨List.toArray []⟩, .string ⟨List.toArray []⟩, .string ⟨List.toArray []⟩, .string ⟨List.toArray []⟩, .string ⟨List.toArray []⟩, .slice none 0 0, .string ⟨List.toArray []⟩, .slice none 0 0]) rfl (Blk.new' (by simp)) ?_; intro w7 N7 m7)
     | fail)
    have hb7 := Below.mod (Below.allocS (Below.refl wr.heap.size wr) (.cells (List.toArray [.int .i64 0, .int .i64 0, .int .i64 0, .bool false, .string ⟨List.toArray []⟩, .string ⟨List.toArray []⟩, .string ⟨List.toArray []⟩, .string ⟨List.toArray []⟩, .string ⟨List.toArray []⟩, .string ⟨List.toArray []⟩, .slice none 0 0, .string ⟨List.toArray []⟩, .slice none 0 0]) 93)) m7 (by simp) (by simp)
    have hb8 := hbr.trans (hb7.mono hbr.size)
    have hbq := hb6.trans (hb8.mono hb6.size)
    have hk7 := fun (Y : World) (hY : Below w.heap.size w Y) => wkey_any A ka kc d (.slice na nA.length nc) Y (HA.out.keep hY) (hk.keep hY)
    have e7 := N7.cell 11
    simp only [sdcs] at e7
    by_cases hd : d = dgH A
    case neg =>
     have HZ : Hid (R = 360) := Lib.hid (by rw [← HR.out, codeW_rest hcm hfA hfB hfw, if_pos (.inl hd)])
     have k1 : (d != dgH A) = true := by simpa using hd
     clear hd HD HR hcm hfA hfB hfw HFW
     refine wp_held rfl (by kernel_rfl) ?_
     (refine qP ?_ ?_ ?_; rotate_left; focus (intro w; go_simp; try with_reducible rfl))
     try simp only [pna, pnb, pnc, pnd, pne]
     (refine qP ?_ ?_ ?_; rotate_left; focus (intro w; go_simp; try with_reducible rfl))
     try simp only [pna, pnb, pnc, pnd, pne]
     refine wpQ_load (by rfl) (.string ⟨d.toArray⟩) (fun w' hb2 => (by have c := (hb2.cell (p := ⟨wr.heap.size, 11, none⟩) N7.lt).trans e7; go_simp; try rfl)) ?_
     try simp only [pna, pnb, pnc, pnd, pne]
     refine wpQ_row row_side (by rfl) (.tmp 11) rfl rfl (vs := sdcs A (.slice ka A.skips.length kc) d (.slice na nA.length nc)) (rfl) (fun w' hb2 => N7.keep hb2) ?_
     try simp only [pna, pnb, pnc, pnd, pne]
     refine wpQ_call (by rfl) _ _ (.agg #[.int .i64 A.height, .string ⟨List.toArray (dgH A)⟩]) (fun w' hb => (hk7 w' (hbq.trans (hb.mono hbq.size))).mono fun _ _ ⟨he, h4⟩ => ⟨he, hb.trans (h4.mono hb.size)⟩) (by intro w; go_simp; try rfl) ?_
     try simp only [pna, pnb, pnc, pnd, pne]
     refine wpQ_pure (by rfl) (.string ⟨List.toArray (dgH A)⟩) (fun w => (by go_simp; try rfl)) ?_
     try simp only [pna, pnb, pnc, pnd, pne]
     refine wpQ_pure (by rfl) (.bool true) (fun w => (by go_simp; simpa using k1)) ?_
     try simp only [pna, pnb, pnc, pnd, pne]
     intro w8 hS
     have hb9 := hbq.trans (hS.mono hbq.size)
     go_wp2_with fail
     all_goals (go_ret2; exact ⟨_, by rw [HZ.out]; rfl, fun h => absurd h (by rw [HZ.out]; decide), fun _ => rfl, hb9⟩)
    have k1 : (d != dgH A) = false := by simpa using hd
    have HDN := Lib.hid hd
    clear hd
    refine wp_held rfl (by kernel_rfl) ?_
    (refine qP ?_ ?_ ?_; rotate_left; focus (intro w; go_simp; try with_reducible rfl))
    try simp only [pna, pnb, pnc, pnd, pne]
    (refine qP ?_ ?_ ?_; rotate_left; focus (intro w; go_simp; try with_reducible rfl))
    try simp only [pna, pnb, pnc, pnd, pne]
    refine wpQ_load (by rfl) (.string ⟨d.toArray⟩) (fun w' hb2 => (by have c := (hb2.cell (p := ⟨wr.heap.size, 11, none⟩) N7.lt).trans e7; go_simp; try rfl)) ?_
    try simp only [pna, pnb, pnc, pnd, pne]
    refine wpQ_row row_side (by rfl) (.tmp 11) rfl rfl (vs := sdcs A (.slice ka A.skips.length kc) d (.slice na nA.length nc)) (rfl) (fun w' hb2 => N7.keep hb2) ?_
    try simp only [pna, pnb, pnc, pnd, pne]
    refine wpQ_call (by rfl) _ _ (.agg #[.int .i64 A.height, .string ⟨List.toArray (dgH A)⟩]) (fun w' hb => (hk7 w' (hbq.trans (hb.mono hbq.size))).mono fun _ _ ⟨he, h4⟩ => ⟨he, hb.trans (h4.mono hb.size)⟩) (by intro w; go_simp; try rfl) ?_
    try simp only [pna, pnb, pnc, pnd, pne]
    refine wpQ_pure (by rfl) (.string ⟨List.toArray (dgH A)⟩) (fun w => (by go_simp; try rfl)) ?_
    try simp only [pna, pnb, pnc, pnd, pne]
    refine wpQ_pure (by rfl) (.bool false) (fun w => (by go_simp; simpa using k1)) ?_
    try simp only [pna, pnb, pnc, pnd, pne]
    intro w8 hS
    have hbz := hb8.trans (hS.mono hb8.size)
    go_wp2_with fail
    exact ⟨⟨1, by go_num, by omega, Lib.hid ⟨fun _ => HDN.out, fun h => absurd h (by omega)⟩, hbz⟩, by simp [intOf]⟩
   ·have hRx := HRG.out wr hbr
    go_wp2_with (first
     | (refine wpList_rowR row_side rfl (.tmp 55) rfl rfl rfl hRx.2 ?_)
     | (refine wpList_rowStore row_side rfl rfl (.tmp 11) (.tmp 56) rfl rfl rfl (vs := sdcs B (.slice kb B.skips.length kd) f (.slice nb nB.length nd)) rfl (sdcs_one _ _ _ _ _ _ _ _) (us := [.int .i64 0, .int .i64 0, .int .i64 0, .bool false, .string ⟨List.toArray []⟩, .string ⟨List.toArray []⟩, .string ⟨List.toArray []⟩, .string ⟨List.toArray []⟩, .string ⟨List.toArray []⟩, .string ⟨List.toArray []⟩, .slice none 0 0, .string ⟨List.toArray []⟩, .slice none 0 0]) rfl (Blk.new' (by simp)) ?_; intro w7 N7 m7)
     | fail)
    have hb7 := Below.mod (Below.allocS (Below.refl wr.heap.size wr) (.cells (List.toArray [.int .i64 0, .int .i64 0, .int .i64 0, .bool false, .string ⟨List.toArray []⟩, .string ⟨List.toArray []⟩, .string ⟨List.toArray []⟩, .string ⟨List.toArray []⟩, .string ⟨List.toArray []⟩, .string ⟨List.toArray []⟩, .slice none 0 0, .string ⟨List.toArray []⟩, .slice none 0 0]) 93)) m7 (by simp) (by simp)
    have hb8 := hbr.trans (hb7.mono hbr.size)
    have hbq := hb6.trans (hb8.mono hb6.size)
    have hk7 := fun (Y : World) (hY : Below w.heap.size w Y) => wkey_any B kb kd f (.slice nb nB.length nd) Y (HB.out.keep hY) (hk.keep hY)
    have e7 := N7.cell 11
    simp only [sdcs] at e7
    by_cases hd : f = dgH B
    case neg =>
     have HZ : Hid (R = 360) := Lib.hid (by rw [← HR.out, codeW_rest hcm hfA hfB hfw, if_pos (.inr hd)])
     have k1 : (f != dgH B) = true := by simpa using hd
     clear hd HD HR hcm hfA hfB hfw HFW
     refine wp_held rfl (by kernel_rfl) ?_
     (refine qP ?_ ?_ ?_; rotate_left; focus (intro w; go_simp; try with_reducible rfl))
     try simp only [pna, pnb, pnc, pnd, pne]
     (refine qP ?_ ?_ ?_; rotate_left; focus (intro w; go_simp; try with_reducible rfl))
     try simp only [pna, pnb, pnc, pnd, pne]
     refine wpQ_load (by rfl) (.string ⟨f.toArray⟩) (fun w' hb2 => (by have c := (hb2.cell (p := ⟨wr.heap.size, 11, none⟩) N7.lt).trans e7; go_simp; try rfl)) ?_
     try simp only [pna, pnb, pnc, pnd, pne]
     refine wpQ_row row_side (by rfl) (.tmp 11) rfl rfl (vs := sdcs B (.slice kb B.skips.length kd) f (.slice nb nB.length nd)) (rfl) (fun w' hb2 => N7.keep hb2) ?_
     try simp only [pna, pnb, pnc, pnd, pne]
     refine wpQ_call (by rfl) _ _ (.agg #[.int .i64 B.height, .string ⟨List.toArray (dgH B)⟩]) (fun w' hb => (hk7 w' (hbq.trans (hb.mono hbq.size))).mono fun _ _ ⟨he, h4⟩ => ⟨he, hb.trans (h4.mono hb.size)⟩) (by intro w; go_simp; try rfl) ?_
     try simp only [pna, pnb, pnc, pnd, pne]
     refine wpQ_pure (by rfl) (.string ⟨List.toArray (dgH B)⟩) (fun w => (by go_simp; try rfl)) ?_
     try simp only [pna, pnb, pnc, pnd, pne]
     refine wpQ_pure (by rfl) (.bool true) (fun w => (by go_simp; simpa using k1)) ?_
     try simp only [pna, pnb, pnc, pnd, pne]
     intro w8 hS
     have hb9 := hbq.trans (hS.mono hbq.size)
     go_wp2_with fail
     all_goals (go_ret2; exact ⟨_, by rw [HZ.out]; rfl, fun h => absurd h (by rw [HZ.out]; decide), fun _ => rfl, hb9⟩)
    have k1 : (f != dgH B) = false := by simpa using hd
    have HDN := Lib.hid hd
    clear hd
    refine wp_held rfl (by kernel_rfl) ?_
    (refine qP ?_ ?_ ?_; rotate_left; focus (intro w; go_simp; try with_reducible rfl))
    try simp only [pna, pnb, pnc, pnd, pne]
    (refine qP ?_ ?_ ?_; rotate_left; focus (intro w; go_simp; try with_reducible rfl))
    try simp only [pna, pnb, pnc, pnd, pne]
    refine wpQ_load (by rfl) (.string ⟨f.toArray⟩) (fun w' hb2 => (by have c := (hb2.cell (p := ⟨wr.heap.size, 11, none⟩) N7.lt).trans e7; go_simp; try rfl)) ?_
    try simp only [pna, pnb, pnc, pnd, pne]
    refine wpQ_row row_side (by rfl) (.tmp 11) rfl rfl (vs := sdcs B (.slice kb B.skips.length kd) f (.slice nb nB.length nd)) (rfl) (fun w' hb2 => N7.keep hb2) ?_
    try simp only [pna, pnb, pnc, pnd, pne]
    refine wpQ_call (by rfl) _ _ (.agg #[.int .i64 B.height, .string ⟨List.toArray (dgH B)⟩]) (fun w' hb => (hk7 w' (hbq.trans (hb.mono hbq.size))).mono fun _ _ ⟨he, h4⟩ => ⟨he, hb.trans (h4.mono hb.size)⟩) (by intro w; go_simp; try rfl) ?_
    try simp only [pna, pnb, pnc, pnd, pne]
    refine wpQ_pure (by rfl) (.string ⟨List.toArray (dgH B)⟩) (fun w => (by go_simp; try rfl)) ?_
    try simp only [pna, pnb, pnc, pnd, pne]
    refine wpQ_pure (by rfl) (.bool false) (fun w => (by go_simp; simpa using k1)) ?_
    try simp only [pna, pnb, pnc, pnd, pne]
    intro w8 hS
    have hbz := hb8.trans (hS.mono hb8.size)
    go_wp2_with fail
    exact ⟨⟨2, by go_num, by omega, Lib.hid ⟨fun _ => HD.out.1 (by omega), fun _ => HDN.out⟩, hbz⟩, by simp [intOf]⟩
   ·go_wp2_with fail
    have HD1 := Lib.hid (HD.out.1 (by omega))
    have HD2 := Lib.hid (HD.out.2 (by omega))
    clear HD
    obtain ⟨wl, hwl⟩ : ∃ x, x = wr := ⟨_, rfl⟩
    have hbl := hbr
    clear hbr
    go_loopw [67] (fun s67 wq => ∃ i : Nat, s67 = .int .i64 i ∧ i ≤ 2 ∧ Hid ((0 < i → goodC 6 l d nA T = 0) ∧ (1 < i → goodC 6 l f nB T = 0)) ∧ Below W6.heap.size W6 wq) (fun s67 _ => 2 - (intOf s67).toNat)
    case atStart => exact ⟨0, rfl, by omega, Lib.hid ⟨fun h => absurd h (by omega), fun h => absurd h (by omega)⟩, hbl⟩
    case round =>
     obtain ⟨i, rfl, hi, HG, hbr⟩ := hrel
     obtain ⟨wq, hwq⟩ := Below.name hbr
     subst hwq
     rcases (show i = 0 ∨ i = 1 ∨ i = 2 by omega) with rfl | rfl | rfl
     ·have hRx := HRG.out wq hbr
      have c0 := (B16.keep hbr).cell 0
      simp only [evcs, List.getElem?_toArray, List.getElem?_cons_zero] at c0
      go_wp2_with (first
       | (refine wpList_rowR row_side rfl (.tmp 69) rfl rfl rfl hRx.1 ?_)
       | (refine wpList_rowStore row_side rfl rfl (.tmp 13) (.tmp 70) rfl rfl rfl (vs := sdcs A (.slice ka A.skips.length kc) d (.slice na nA.length nc)) rfl (sdcs_one _ _ _ _ _ _ _ _) (us := [.int .i64 0, .int .i64 0, .int .i64 0, .bool false, .string ⟨List.toArray []⟩, .string ⟨List.toArray []⟩, .string ⟨List.toArray []⟩, .string ⟨List.toArray []⟩, .string ⟨List.toArray []⟩, .string ⟨List.toArray []⟩, .slice none 0 0, .string ⟨List.toArray []⟩, .slice none 0 0]) rfl (Blk.new' (by simp)) ?_
          intro w7 N7 m7
          have hb7 := Below.mod (Below.allocS (Below.refl wq.heap.size wq) (.cells (List.toArray [.int .i64 0, .int .i64 0, .int .i64 0, .bool false, .string ⟨List.toArray []⟩, .string ⟨List.toArray []⟩, .string ⟨List.toArray []⟩, .string ⟨List.toArray []⟩, .string ⟨List.toArray []⟩, .string ⟨List.toArray []⟩, .slice none 0 0, .string ⟨List.toArray []⟩, .slice none 0 0]) 93)) m7 (by simp) (by simp)
          replace c0 := (hb7.cell (p := ⟨w.heap.size, 0, none⟩) (B16.keep hbr).lt).trans c0)
       | (refine wpList_rowR row_cert rfl (.tmp 73) rfl rfl rfl (sd_cert N7) ?_)
       | fail)
      have hb8 := hbr.trans (hb7.mono hbr.size)
      have hbq := hb6.trans (hb8.mono hb6.size)
      have hck := ccheck_any 6 _ _ l d nA base p T w7 (HM.out.keep hbq) ⟨_, rfl, HNA.out.keep hbq⟩ (HT.out.keep hbq) (hk.keep hbq)
      by_cases hg : goodC 6 l d nA T = 0
      case neg =>
       have HZ : Hid (R = goodC 6 l d nA T) := Lib.hid (by rw [← HR.out, codeW_rest hcm hfA hfB hfw, if_neg (by simp [HD1.out, HD2.out]), if_pos hg])
       have HGN := Lib.hid hg
       have k1 : (goodC 6 l d nA T != 0) = true := by simpa using hg
       clear hg HG HR hcm hfA hfB hfw HFW HD1 HD2
       generalize goodC 6 l d nA T = z at *
       refine hck.mono ?_
       rintro e w8 ⟨rfl, hb⟩
       have hb9 := hbq.trans (hb.mono hbq.size)
       go_wp2_with fail
       all_goals (go_ret2; exact ⟨_, by rw [HZ.out]; rfl, fun h => absurd h (by rw [HZ.out]; exact HGN.out), fun _ => rfl, hb9⟩)
      rw [hg] at hck
      have HGN := Lib.hid hg
      clear hg
      refine hck.mono ?_
      rintro e w8 ⟨rfl, hb⟩
      have hbz := hb8.trans (hb.mono hb8.size)
      go_wp2_with fail
      exact ⟨⟨_, _, _, _, _, _, _, _, _, _, _, _, _, _, _, _, _, _, ⟨1, by go_num, by omega, Lib.hid ⟨fun _ => HGN.out, fun h => absurd h (by omega)⟩, hbz⟩, rfl⟩, by simp [intOf]⟩
     ·have hRx := HRG.out wq hbr
      have c0 := (B16.keep hbr).cell 0
      simp only [evcs, List.getElem?_toArray, List.getElem?_cons_zero] at c0
      go_wp2_with (first
       | (refine wpList_rowR row_side rfl (.tmp 69) rfl rfl rfl hRx.2 ?_)
       | (refine wpList_rowStore row_side rfl rfl (.tmp 13) (.tmp 70) rfl rfl rfl (vs := sdcs B (.slice kb B.skips.length kd) f (.slice nb nB.length nd)) rfl (sdcs_one _ _ _ _ _ _ _ _) (us := [.int .i64 0, .int .i64 0, .int .i64 0, .bool false, .string ⟨List.toArray []⟩, .string ⟨List.toArray []⟩, .string ⟨List.toArray []⟩, .string ⟨List.toArray []⟩, .string ⟨List.toArray []⟩, .string ⟨List.toArray []⟩, .slice none 0 0, .string ⟨List.toArray []⟩, .slice none 0 0]) rfl (Blk.new' (by simp)) ?_
          intro w7 N7 m7
          have hb7 := Below.mod (Below.allocS (Below.refl wq.heap.size wq) (.cells (List.toArray [.int .i64 0, .int .i64 0, .int .i64 0, .bool false, .string ⟨List.toArray []⟩, .string ⟨List.toArray []⟩, .string ⟨List.toArray []⟩, .string ⟨List.toArray []⟩, .string ⟨List.toArray []⟩, .string ⟨List.toArray []⟩, .slice none 0 0, .string ⟨List.toArray []⟩, .slice none 0 0]) 93)) m7 (by simp) (by simp)
          replace c0 := (hb7.cell (p := ⟨w.heap.size, 0, none⟩) (B16.keep hbr).lt).trans c0)
       | (refine wpList_rowR row_cert rfl (.tmp 73) rfl rfl rfl (sd_cert N7) ?_)
       | fail)
      have hb8 := hbr.trans (hb7.mono hbr.size)
      have hbq := hb6.trans (hb8.mono hb6.size)
      have hck := ccheck_any 6 _ _ l f nB base p T w7 (HM.out.keep hbq) ⟨_, rfl, HNB.out.keep hbq⟩ (HT.out.keep hbq) (hk.keep hbq)
      by_cases hg : goodC 6 l f nB T = 0
      case neg =>
       have HZ : Hid (R = goodC 6 l f nB T) := Lib.hid (by rw [← HR.out, codeW_rest hcm hfA hfB hfw, if_neg (by simp [HD1.out, HD2.out]), if_neg (by simpa using HG.out.1 (by omega))])
       have HGN := Lib.hid hg
       have k1 : (goodC 6 l f nB T != 0) = true := by simpa using hg
       clear hg HG HR hcm hfA hfB hfw HFW HD1 HD2
       generalize goodC 6 l f nB T = z at *
       refine hck.mono ?_
       rintro e w8 ⟨rfl, hb⟩
       have hb9 := hbq.trans (hb.mono hbq.size)
       go_wp2_with fail
       all_goals (go_ret2; exact ⟨_, by rw [HZ.out]; rfl, fun h => absurd h (by rw [HZ.out]; exact HGN.out), fun _ => rfl, hb9⟩)
      rw [hg] at hck
      have HGN := Lib.hid hg
      clear hg
      refine hck.mono ?_
      rintro e w8 ⟨rfl, hb⟩
      have hbz := hb8.trans (hb.mono hb8.size)
      go_wp2_with fail
      exact ⟨⟨_, _, _, _, _, _, _, _, _, _, _, _, _, _, _, _, _, _, ⟨2, by go_num, by omega, Lib.hid ⟨fun _ => HG.out.1 (by omega), fun _ => HGN.out⟩, hbz⟩, rfl⟩, by simp [intOf]⟩
     ·have e1 := (K16.keep hbr).cell 12
      simp only [sdcs] at e1
      have e2 := (K26.keep hbr).cell 12
      simp only [sdcs] at e2
      have hbq := hb6.trans (hbr.mono hb6.size)
      have hg1 := HG.out.1 (by omega)
      have hg2 := HG.out.2 (by omega)
      obtain ⟨p1, p2⟩ := good_shortW hg1
      obtain ⟨p3, p4⟩ := good_shortW hg2
      have HZ : Hid (R = 0) := Lib.hid (by rw [← HR.out, codeW_rest hcm hfA hfB hfw, if_neg (by simp [HD1.out, HD2.out]), if_neg (by simpa using hg1)]; exact hg2)
      have hbo := mboth_any _ _ nA nB (by omega) (by omega) (fun i hi => Nat.le_trans (p2 i hi) (by unfold maxLen; omega)) (fun i hi => Nat.le_trans (p4 i hi) (by unfold maxLen; omega)) wq (HNA.out.keep hbq) (HNB.out.keep hbq)
      go_wp2_with fail
      refine hbo.mono ?_
      rintro e w9 ⟨x, rfl, hx, hb⟩
      have hb9 := hbq.trans (hb.mono hbq.size)
      go_wp2_with fail
      all_goals (go_ret2; exact ⟨_, by rw [HZ.out]; rfl, fun _ => hx.low hbq.size, fun h => absurd HZ.out h, hb9⟩)
end Go.Proofs.YthkpmlfaddlieaaGreatDoor
namespace Go.Proofs.YthkpmlfaddlieaaGreatDoor
open Go.Shelf
def laysRepeat_ren : Go.Shelf.Ren := ⟨fun | 105 => 24 | 212 => 57 | 99 => 58 | 165 => 59 | 166 => 60 | 170 => 61 | 169 => 62 | 263 => 87 | 264 => 88 | 206 => 89 | 240 => 90 | 241 => 91 | 276 => 127 | 277 => 128 | n => n, fun | 9 => 9 | 3 => 3 | 4 => 4 | 20 => 20 | 0 => 0 | 46 => 126 | 109 => 127 | 5 => 5 | 72 => 132 | 76 => 136 | 51 => 158 | 146 => 159 | 53 => 161 | 148 => 162 | 70 => 129 | 37 => 130 | 75 => 135 | 127 => 164 | 164 => 199 | 80 => 139 | n => n, fun | n => n⟩
theorem laysRepeat : Go.Proofs.Lays.n105 Tryz.prog laysRepeat_ren := {
 mixed := by kernel_rfl
 f99 := Tryz.func58.trans (congrArg some (by kernel_rfl))
 f105 := Tryz.func24.trans (congrArg some (by kernel_rfl))
 f165 := Tryz.func59.trans (congrArg some (by kernel_rfl))
 f166 := Tryz.func60.trans (congrArg some (by kernel_rfl))
 f169 := Tryz.func62.trans (congrArg some (by kernel_rfl))
 f170 := Tryz.func61.trans (congrArg some (by kernel_rfl))
 f206 := Tryz.func89.trans (congrArg some (by kernel_rfl))
 f212 := Tryz.func57.trans (congrArg some (by kernel_rfl))
 f240 := Tryz.func90.trans (congrArg some (by kernel_rfl))
 f241 := Tryz.func91.trans (congrArg some (by kernel_rfl))
 f263 := Tryz.func87.trans (congrArg some (by kernel_rfl))
 f264 := Tryz.func88.trans (congrArg some (by kernel_rfl))
 f276 := Tryz.func127.trans (congrArg some (by kernel_rfl))
 f277 := Tryz.func128.trans (congrArg some (by kernel_rfl))
 t0 := Tryz.underlying0
 a0 := Tryz.isAgg0
 z0 := Tryz.sizeOf0
 v0 := Tryz.zeroValue0
 t3 := Tryz.underlying3
 a3 := Tryz.isAgg3
 z3 := Tryz.sizeOf3
 v3 := Tryz.zeroValue3
 t4 := Tryz.underlying4
 a4 := Tryz.isAgg4
 z4 := Tryz.sizeOf4
 v4 := Tryz.zeroValue4
 t5 := Tryz.underlying5
 a5 := Tryz.isAgg5
 z5 := Tryz.sizeOf5
 v5 := Tryz.zeroValue5
 t9 := Tryz.underlying9
 a9 := Tryz.isAgg9
 z9 := Tryz.sizeOf9
 v9 := Tryz.zeroValue9
 t20 := Tryz.underlying20
 a20 := Tryz.isAgg20
 z20 := Tryz.sizeOf20
 v20 := Tryz.zeroValue20
 t37 := Tryz.underlying130
 a37 := Tryz.isAgg130
 z37 := Tryz.sizeOf130
 v37 := Tryz.zeroValue130
 t46 := Tryz.underlying126
 a46 := Tryz.isAgg126
 z46 := Tryz.sizeOf126
 v46 := Tryz.zeroValue126
 t51 := Tryz.underlying158
 a51 := Tryz.isAgg158
 z51 := Tryz.sizeOf158
 v51 := Tryz.zeroValue158
 t53 := Tryz.underlying161
 a53 := Tryz.isAgg161
 z53 := Tryz.sizeOf161
 v53 := Tryz.zeroValue161
 t70 := Tryz.underlying129
 a70 := Tryz.isAgg129
 z70 := Tryz.sizeOf129
 v70 := Tryz.zeroValue129
 t72 := Tryz.underlying132
 a72 := Tryz.isAgg132
 z72 := Tryz.sizeOf132
 v72 := Tryz.zeroValue132
 t75 := Tryz.underlying135
 a75 := Tryz.isAgg135
 z75 := Tryz.sizeOf135
 v75 := Tryz.zeroValue135
 t76 := Tryz.underlying136
 a76 := Tryz.isAgg136
 z76 := Tryz.sizeOf136
 v76 := Tryz.zeroValue136
 t109 := Tryz.underlying127
 a109 := Tryz.isAgg127
 z109 := Tryz.sizeOf127
 v109 := Tryz.zeroValue127
 t127 := Tryz.underlying164
 a127 := Tryz.isAgg164
 z127 := Tryz.sizeOf164
 v127 := Tryz.zeroValue164
 t146 := Tryz.underlying159
 a146 := Tryz.isAgg159
 z146 := Tryz.sizeOf159
 v146 := Tryz.zeroValue159
 t148 := Tryz.underlying162
 a148 := Tryz.isAgg162
 z148 := Tryz.sizeOf162
 v148 := Tryz.zeroValue162
 t164 := Tryz.underlying199
 a164 := Tryz.isAgg199
 z164 := Tryz.sizeOf199
 v164 := Tryz.zeroValue199 }
end Go.Proofs.YthkpmlfaddlieaaGreatDoor
