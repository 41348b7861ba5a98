/- Over, CertLaw, WitP, WBig, Unl4. -/
import Derived.Test.YthkpmlfaddlieaaGreatDoorMw20
set_option linter.unnecessarySimpa false
set_option linter.unusedSimpArgs false
set_option linter.unusedVariables false
set_option maxRecDepth 100000
set_option maxHeartbeats 32000000
namespace Go.Proofs.YthkpmlfaddlieaaGreatDoor
open Go.RowKit Pl
namespace Pl
theorem sum_mono (X Y : List Bs) (h : ∀ x, x ∈ X → x ∈ Y) : ∀ l : List (Bs × Int), (∀ m ∈ l, 0 ≤ m.2) → sumOf X l ≤ sumOf Y l
 | [], _ => by simp [sumOf]
 | m :: l, hp => by
  have ih := sum_mono X Y h l (fun x hx => hp x (by simp [hx]))
  have h0 := hp m (by simp)
  simp only [sumOf, List.contains_iff_mem]
  by_cases h1 : m.1 ∈ X
  ·rw [if_pos h1, if_pos (h _ h1)]; omega
  ·rw [if_neg h1]
   by_cases h2 : m.1 ∈ Y
   ·rw [if_pos h2]; omega
   ·rw [if_neg h2]; omega
theorem sum_incl (A B C : List Bs) (h : ∀ x, x ∈ A → x ∈ B → x ∈ C) : ∀ l : List (Bs × Int), (∀ m ∈ l, 0 ≤ m.2) → sumOf A l + sumOf B l ≤ sumM l + sumOf C l
 | [], _ => by simp [sumOf, sumM]
 | m :: l, hp => by
  have ih := sum_incl A B C h l (fun x hx => hp x (by simp [hx]))
  have h0 := hp m (by simp)
  simp only [sumOf, sumM, List.contains_iff_mem]
  by_cases h1 : m.1 ∈ A
  ·by_cases h2 : m.1 ∈ B
   ·rw [if_pos h1, if_pos h2, if_pos (h _ h1 h2)]; omega
   ·rw [if_pos h1, if_neg h2]
    split <;> omega
  ·rw [if_neg h1]
   split <;> split <;> omega
theorem pow_pos_of {l : List (Bs × Int)} (hc : chkM l = true) : ∀ m ∈ l, 0 ≤ m.2 := by
 simp only [chkM, Bool.and_eq_true, decide_eq_true_eq] at hc
 intro m hm
 obtain ⟨i, hi, rfl⟩ := List.getElem_of_mem hm
 have := (okM_at l [] hc.2 i hi).2.1
 rw [List.getD_eq_getElem?_getD, List.getElem?_eq_getElem hi] at this
 simp at this
 omega
theorem tot_pos {l : List (Bs × Int)} (hc : chkM l = true) : 1 ≤ totM l := by
 have hc2 := hc
 simp only [chkM, Bool.and_eq_true, decide_eq_true_eq] at hc2
 have h := sumM_take l (fun i hi => (okM_at l [] hc2.2 i hi).2) l.length (by omega)
 rw [List.take_length] at h
 rw [totM, if_pos hc]
 have := hc2.1.1
 omega
theorem quo_of {l : List (Bs × Int)} (hc : chkM l = true) : quoM l = 2 * totM l / 3 + 1 := by
 have := tot_pos hc
 unfold quoM
 rw [if_neg (by omega), Int.tdiv_eq_ediv_of_nonneg (by omega)]
theorem most_of {l : List (Bs × Int)} (hc : chkM l = true) : mostM l = (totM l - 1) / 3 := by
 have := tot_pos hc
 unfold mostM
 rw [if_neg (by omega), Int.tdiv_eq_ediv_of_nonneg (by omega)]
theorem of_bound {l : List (Bs × Int)} (X : List Bs) (hc : chkM l = true) : 0 ≤ ofM l X ∧ ofM l X ≤ 7000 := by
 have hc2 := hc
 simp only [chkM, Bool.and_eq_true, decide_eq_true_eq] at hc2
 have h := sumOf_take X l (fun i hi => (okM_at l [] hc2.2 i hi).2) l.length (by omega)
 rw [List.take_length] at h
 rw [ofM, if_pos hc]
 omega
theorem over_law {l : List (Bs × Int)} {A B C : List Bs} (hc : chkM l = true) (h : IsBoth A B C) :
  ofM l C ≤ ofM l A ∧ ofM l C ≤ ofM l B ∧ (quoM l ≤ ofM l A → quoM l ≤ ofM l B → mostM l < ofM l C ∧ totM l < 3 * ofM l C) := by
 have hp := pow_pos_of hc
 have h1 := sum_mono C A (fun x hx => ((h.2 x).1 hx).1) l hp
 have h2 := sum_mono C B (fun x hx => ((h.2 x).1 hx).2) l hp
 have h3 := sum_incl A B C (fun x ha hb => (h.2 x).2 ⟨ha, hb⟩) l hp
 have ht := tot_pos hc
 rw [quo_of hc, most_of hc]
 simp only [ofM, totM, hc, if_true] at *
 refine ⟨h1, h2, fun h4 h5 => ⟨?_, ?_⟩⟩ <;> omega
end Pl
end Go.Proofs.YthkpmlfaddlieaaGreatDoor
namespace Go.Proofs.YthkpmlfaddlieaaGreatDoor
namespace Pl
theorem isIn_mem (L : List Sg) (n m : Bs) : isIn L n m = true ↔ (n, m) ∈ L.map keyOfS := by simp [isIn]
theorem signL_grows (L : List Sg) (who mark : Bs) (h : Bool) (n m : Bs) (hn : isIn L n m = true) : isIn (signL L who mark h).1 n m = true := by
 unfold signL
 split
 ·exact hn
 ·split
  ·exact hn
  ·split
   ·rename_i hin
    rw [isIn_mem, keys_set L who mark _ hin]
    exact (isIn_mem L n m).1 hn
   ·split
    ·exact hn
    ·rw [isIn_mem] at hn ⊢
     simp only [List.map_append, List.mem_append]
     exact .inl hn
theorem good_parts {tag : Int} {l : List (Bs × Int)} {d : Bs} {ns : List Bs} {L : List Sg} (h : goodC tag l d ns L = 0) :
  firstC tag l (mayC d ns) = 0 ∧ chkA l ns = true ∧ chkB L (tagP tag.toNat d) ns = true ∧ quoM l ≤ ofM l ns := by
 by_cases h0 : firstC tag l (mayC d ns) = 0
 ·rw [goodC_in h0] at h
  unfold goodIn at h
  cases ha : chkA l ns
  ·simp [ha] at h
  ·cases hb : chkB L (tagP tag.toNat d) ns
   ·simp [ha, hb] at h
   ·simp only [ha, hb, Bool.true_eq_false, if_false] at h
    by_cases hq : ofM l ns < quoM l
    ·rw [if_pos hq] at h; exact absurd h (by decide)
    ·exact ⟨h0, rfl, rfl, by omega⟩
 ·rw [goodC_out h0] at h
  exact absurd h h0
theorem two_good {tag : Int} {l : List (Bs × Int)} {d e : Bs} {a b both : List Bs} {L : List Sg} (ha : goodC tag l d a L = 0) (hb : goodC tag l e b L = 0) (h : IsBoth a b both) :
  (∀ n ∈ both, isIn L n (tagP tag.toNat d) = true ∧ isIn L n (tagP tag.toNat e) = true) ∧ mostM l < ofM l both ∧ totM l < 3 * ofM l both ∧ tagC tag = true ∧ d.length = 32 ∧ e.length = 32 ∧ chkM l = true := by
 obtain ⟨a1, a2, a3, a4⟩ := good_parts ha
 obtain ⟨b1, b2, b3, b4⟩ := good_parts hb
 obtain ⟨hm, ht, hc⟩ := first_zero a1
 obtain ⟨hm2, _, _⟩ := first_zero b1
 obtain ⟨h1, h2, h3⟩ := over_law hc h
 obtain ⟨h4, h5⟩ := h3 a4 b4
 refine ⟨fun n hn => ?_, h4, h5, ht, (mayC_parts hm).1, (mayC_parts hm2).1, hc⟩
 obtain ⟨na, nb⟩ := (h.2 n).1 hn
 unfold chkB at a3 b3
 rw [List.all_eq_true] at a3 b3
 exact ⟨a3 n na, b3 n nb⟩
end Pl
end Go.Proofs.YthkpmlfaddlieaaGreatDoor
namespace Go.Proofs.YthkpmlfaddlieaaGreatDoor
open Go.RowKit Pl
def unlikeB (tag : Nat) (l : List Bs) : Bool :=
 (List.range l.length).any fun i => (List.range i).any fun k => decide (tagP tag (l.getD i []) = tagP tag (l.getD k [])) && decide (l.getD i [] ≠ l.getD k [])
theorem unlikeB_at {tag : Nat} {l : List Bs} {i k : Nat} (hi : i < l.length) (hk : k < l.length) (hs : tagP tag (l.getD i []) = tagP tag (l.getD k [])) (hn : l.getD i [] ≠ l.getD k []) : unlikeB tag l = true := by
 have key : ∀ i k, i < l.length → k < i → tagP tag (l.getD i []) = tagP tag (l.getD k []) → l.getD i [] ≠ l.getD k [] → unlikeB tag l = true := by
  intro i k hi hk hs hn
  unfold unlikeB
  rw [List.any_eq_true]
  refine ⟨i, List.mem_range.2 hi, ?_⟩
  rw [List.any_eq_true]
  exact ⟨k, List.mem_range.2 hk, by rw [hs]; simpa using hn⟩
 rcases Nat.lt_trichotomy i k with h | h | h
 ·exact key k i hk h hs.symm (fun e => hn e.symm)
 ·subst h; exact absurd rfl hn
 ·exact key i k hi h hs hn
theorem unlikeB_of {tag : Nat} {l : List Bs} {a b : Bs} (ha : a ∈ l) (hb : b ∈ l) (hs : tagP tag a = tagP tag b) (hn : a ≠ b) : unlikeB tag l = true := by
 obtain ⟨i, hi, rfl⟩ := List.getElem_of_mem ha
 obtain ⟨k, hk, rfl⟩ := List.getElem_of_mem hb
 have e : ∀ j (h : j < l.length), l.getD j [] = l[j] := fun j h => by rw [List.getD_eq_getElem?_getD, List.getElem?_eq_getElem h]; rfl
 exact unlikeB_at hi hk (by rw [e i hi, e k hk]; exact hs) (by rw [e i hi, e k hk]; exact hn)
theorem signL_in {L : List Sg} {who mark : Bs} {h : Bool} {n m : Bs} (hi : isIn (signL L who mark h).1 n m = true) : isIn L n m = true ∨ (n = who ∧ m = mark ∧ mark.length = 32) := by
 unfold signL at hi
 split at hi
 ·exact .inl hi
 ·split at hi
  ·exact .inl hi
  ·rename_i h32
   split at hi
   ·rename_i hin
    left
    rw [isIn_mem] at hi ⊢
    rw [keys_set L who mark _ hin] at hi
    exact hi
   ·split at hi
    ·exact .inl hi
    ·rw [isIn_mem, List.map_append, List.mem_append] at hi
     rcases hi with hi | hi
     ·exact .inl ((isIn_mem _ _ _).2 hi)
     ·simp only [List.map_cons, List.map_nil, List.mem_singleton, keyOfS, Prod.mk.injEq] at hi
      exact .inr ⟨hi.1, hi.2, by simpa using h32⟩
def codeW (l : List (Bs × Int)) (A B : Hd) (dA : Bs) (nA : List Bs) (dB : Bs) (nB : List Bs) (T : List Sg) : Int :=
 if chkM l = false then 50
 else if fineH A = false ∨ fineH B = false then 190
 else if ¬ (A.height = B.height ∧ dgH A ≠ dgH B ∧ A.members = (dgM l) ∧ B.members = dgM l) then 4
 else if dA ≠ dgH A ∨ dB ≠ dgH B then 360
 else if goodC 6 l dA nA T ≠ 0 then goodC 6 l dA nA T
 else goodC 6 l dB nB T
theorem codeW_zero {l : List (Bs × Int)} {A B : Hd} {dA : Bs} {nA : List Bs} {dB : Bs} {nB : List Bs} {T : List Sg} (h : codeW l A B dA nA dB nB T = 0) :
  fineH A = true ∧ fineH B = true ∧ A.height = B.height ∧ dgH A ≠ dgH B ∧ dA = dgH A ∧ dB = dgH B ∧ goodC 6 l dA nA T = 0 ∧ goodC 6 l dB nB T = 0 := by
 unfold codeW at h
 split at h
 ·exact absurd h (by decide)
 ·split at h
  ·exact absurd h (by decide)
  ·rename_i hf
   split at h
   ·exact absurd h (by decide)
   ·rename_i hs
    split at h
    ·exact absurd h (by decide)
    ·rename_i hd
     split at h
     ·rename_i hg; exact absurd h hg
     ·rename_i hg
      simp only [not_or, Bool.not_eq_false] at hf
      simp only [Classical.not_not] at hs hg
      simp only [not_or, Classical.not_not] at hd
      exact ⟨hf.1, hf.2, hs.1, hs.2.1, hd.1, hd.2, hg, h⟩
def e0H : Hd × Bs := (hdZ, [])
def LedH (E : List (Hd × Bs)) : Prop := ∀ i, i < E.length → (E.getD i e0H).1.height = i ∧ (E.getD i e0H).2 = dgH (E.getD i e0H).1
theorem dgH_len {h : Hd} (hf : fineH h = true) : (dgH h).length = 32 := by rw [dgH_yes hf]; exact tagP_len _ _
theorem markP_six (s : Bs) : (markP 6 s).1 = if s.length = 32 then tagP 6 s else [] := by
 unfold markP
 rw [if_neg (by decide)]
 by_cases h : s.length = 32
 ·rw [if_neg (by simpa using h), if_pos h]; rfl
 ·rw [if_pos h, if_neg h]
theorem wit_honest {E : List (Hd × Bs)} (hE : LedH E) {A B : Hd} {a i : Nat} (ha : a < E.length) (hA : A = (E.getD a e0H).1) (fA : fineH A = true) (fB : fineH B = true) (hh : A.height = B.height) (hd : dgH A ≠ dgH B)
  (hi : i < E.length) (hm : tagP 6 (dgH B) = (markP 6 (E.getD i e0H).2).1) :
  unlikeB 6 (dgH A :: dgH B :: E.map (·.2)) = true ∨ unlikeB 2 ((encHR A).1 :: (encHR B).1 :: E.map fun y => (encHR y.1).1) = true := by
 obtain ⟨h1, h2⟩ := hE i hi
 have hmem : E.getD i e0H ∈ E := by rw [List.getD_eq_getElem?_getD, List.getElem?_eq_getElem hi]; exact List.getElem_mem _
 generalize hx : E.getD i e0H = x at *
 have h32 : x.2.length = 32 := by
  apply Classical.byContradiction
  intro hc
  rw [markP_six, if_neg hc] at hm
  have := tagP_len 6 (dgH B)
  rw [hm] at this
  cases this
 rw [markP_six, if_pos h32] at hm
 by_cases he : dgH B = x.2
 ·right
  have fx : fineH x.1 = true := by
   apply Classical.byContradiction
   intro hc
   rw [h2, dgH_no (by simpa using hc)] at h32
   cases h32
  rw [h2, dgH_yes fB, dgH_yes fx] at he
  refine unlikeB_of (a := writH B) (b := writH x.1) ?_ ?_ he ?_
  ·rw [encHR_yes fB]; simp
  ·refine List.mem_cons_of_mem _ (List.mem_cons_of_mem _ (List.mem_map.2 ⟨x, hmem, ?_⟩))
   rw [encHR_yes fx]
  ·intro ew
   have e1 := decH_writ fB
   rw [ew, decH_writ fx] at e1
   have e2 : x.1 = B := congrArg Prod.fst e1
   have e3 : (a : Int) = i := by
    have := (hE a ha).1
    rw [← hA, hh, ← e2, h1] at this
    exact this.symm
   have e4 : a = i := by omega
   subst e4
   rw [hx, e2] at hA
   exact hd (by rw [hA])
 ·left
  exact unlikeB_of (a := dgH B) (b := x.2) (by simp) (List.mem_cons_of_mem _ (List.mem_cons_of_mem _ (List.mem_map.2 ⟨x, hmem, rfl⟩))) hm he
end Go.Proofs.YthkpmlfaddlieaaGreatDoor
namespace Go.Proofs.YthkpmlfaddlieaaGreatDoor
open Go.RowKit Go.Shelf Pl
def BoO (W : World) (e : Ending) (w' : World) : Prop := (∃ b : Bool, e = .returned (.bool b)) ∧ Below W.heap.size W w'
theorem wbig_any (A : List Acc) (S : List (Bs × Int)) (B : List Bs) (many : Int) (va vs vb : Value) (w : World) (hA : AcL w va A) (hS : MS w vs S) (hB : SS w vb B) :
  Calls Tryz.prog 7 #[.agg (wdcs va vs many vb).toArray] w (BoO w) := by
 have B0 : Blk (w.alloc (.cells (wdcs va vs many vb).toArray 26)) w.heap.size (wdcs va vs many vb).toArray := Blk.new _ _ _
 have hb0 : Below w.heap.size w (w.alloc (.cells (wdcs va vs many vb).toArray 26)) := Below.allocS (Below.refl _ _) _
 have HA := Lib.hid (hA.keep hb0)
 have HB := Lib.hid (hB.keep hb0)
 obtain ⟨aa, ac, rfl⟩ := hA.form
 obtain ⟨sa, sc, rfl⟩ := hS.form
 obtain ⟨ba, bc, rfl⟩ := hB.form
 have hal : A.length ≤ 9223372036854775807 := by obtain ⟨a, c, _, h1, h2, _⟩ := hA; unfold maxLen at h2; omega
 have c0 := B0.cell 0
 have c1 := B0.cell 1
 have c3 := B0.cell 3
 simp only [wdcs, List.getElem?_toArray, List.getElem?_cons_zero, List.getElem?_cons_succ] at c0 c1 c3
 have hb1 : Below w.heap.size w (w.alloc (.cells (wdcs (.slice aa A.length ac) (.slice sa S.length sc) many (.slice ba B.length bc)).toArray 26)) := hb0
 clear B0 hB hA hS hb0
 go_enter Tryz.func7, Tryz.ntmps7
 simp only [wdcs] at c0 c1 c3 HA HB hb1 ⊢
 go_wp2_with fail
 generalize w.alloc (.cells (List.toArray [.slice aa A.length ac, .slice sa S.length sc, .int .i64 many, .slice ba B.length bc]) 26) = W at *
 have qf := few_any (.slice ba B.length bc) B 20 100 W HB.out
 go_loopw [3] (fun s3 wr => ∃ i : Nat, s3 = .int .i64 i ∧ i ≤ A.length ∧ wr = W) (fun s3 _ => A.length - (intOf s3).toNat)
 case atStart => exact ⟨0, rfl, by omega, rfl⟩
 case round =>
  obtain ⟨i, rfl, hi, rfl⟩ := hrel
  by_cases hlt : i < A.length
  ·have i1 : decide ((i : Int) < (A.length : Int)) = true := by simp; omega
   have i2 : (i : Int) < (A.length : Int) := by omega
   obtain ⟨g, off, e1, hg, hr⟩ := HA.out.at i hlt
   subst e1
   generalize A.getD i acZ = x at *
   obtain ⟨nm, am, sq⟩ := x
   have c4 : wr.cell? ⟨g, off + i * 3, none⟩ = some (.string ⟨List.toArray nm⟩) := hr 0 _ rfl
   have HL := Lib.hid hlt
   clear hr hlt
   by_cases hnl : 100 < nm.length
   ·have k1 : decide ((100 : Int) < (nm.length : Int)) = true := by rw [decide_eq_true_eq]; omega
    clear hnl
    go_wp2_with fail
    go_ret
    exact ⟨⟨true, rfl⟩, hb1⟩
   ·have k1 : decide ((100 : Int) < (nm.length : Int)) = false := by rw [decide_eq_false_iff_not]; omega
    clear hnl
    go_wp2_with fail
    exact ⟨⟨i + 1, by go_num, by have := HL.out; omega, trivial⟩, by have := HL.out; simp [intOf]; omega⟩
  ·have i1 : decide ((i : Int) < (A.length : Int)) = false := by simp; omega
   have i3 : decide (i < A.length) = false := by rw [decide_eq_false_iff_not]; omega
   have i4 : ¬ i < A.length := hlt
   by_cases h1 : 20 < A.length
   ·have k1 : decide ((20 : Int) < (A.length : Int)) = true := by rw [decide_eq_true_eq]; omega
    go_wp2_with fail
    go_ret
    exact ⟨⟨true, rfl⟩, hb1⟩
   ·have k1 : decide ((20 : Int) < (A.length : Int)) = false := by rw [decide_eq_false_iff_not]; omega
    by_cases h2 : 100 < S.length
    ·have k2 : decide ((100 : Int) < (S.length : Int)) = true := by rw [decide_eq_true_eq]; omega
     go_wp2_with fail
     go_ret
     exact ⟨⟨true, rfl⟩, hb1⟩
    ·have k2 : decide ((100 : Int) < (S.length : Int)) = false := by rw [decide_eq_false_iff_not]; omega
     generalize fewP B 20 100 = q at *
     go_wp2_with fail
     refine qf.mono ?_
     rintro e w2 ⟨rfl, hb2⟩
     go_wp2_with fail
     go_ret
     exact ⟨⟨!q, rfl⟩, hb1.trans (hb2.mono hb1.size)⟩
end Go.Proofs.YthkpmlfaddlieaaGreatDoor
namespace Go.Proofs.YthkpmlfaddlieaaGreatDoor
open Go.RowKit Go.Shelf Pl
theorem map_takeS (f : Bs → Bs) (l : List Bs) (i : Nat) (hi : i < l.length) : (l.take (i + 1)).map f = (l.take i).map f ++ [f (l.getD i [])] := by
 rw [List.take_add_one, List.getElem?_eq_getElem hi, List.map_append, List.getD_eq_getElem?_getD, List.getElem?_eq_getElem hi]
 rfl
theorem map_getS (f : Bs → Bs) (l : List Bs) (i : Nat) (hi : i < l.length) : (l.map f).getD i [] = f (l.getD i []) := by
 rw [List.getD_eq_getElem?_getD, List.getElem?_map, List.getD_eq_getElem?_getD, List.getElem?_eq_getElem hi]
 rfl
def clashB (tag : Nat) (l : List Bs) (i k : Nat) : Bool := decide (tagP tag (l.getD i []) = tagP tag (l.getD k [])) && decide (l.getD i [] ≠ l.getD k [])
theorem unlike_no {tag : Nat} {l : List Bs} (h : ∀ i, i < l.length → ∀ k, k < i → clashB tag l i k = false) : unlikeB tag l = false := by
 cases hc : unlikeB tag l
 ·rfl
 ·exfalso
  unfold unlikeB at hc
  rw [List.any_eq_true] at hc
  obtain ⟨i, hi, hc⟩ := hc
  rw [List.any_eq_true] at hc
  obtain ⟨k, hk, hc⟩ := hc
  have := h i (List.mem_range.1 hi) k (List.mem_range.1 hk)
  unfold clashB at this
  rw [this] at hc; cases hc
theorem unlike4_any (tag : Nat) (ht : tag < 200) (v : Value) (l : List Bs) (hl : l.length ≤ 1000) (hs : ∀ i, i < l.length → (l.getD i []).length ≤ 1000000) (w : World) (hv : SS w v l) :
  Calls Tryz.prog 18 #[.int .i64 tag, v] w fun e w' => e = .returned (.bool (unlikeB tag l)) ∧ Below w.heap.size w w' := by
 obtain ⟨va, vc, rfl⟩ := hv.form
 have HV := Lib.hid hv
 have HSZ := Lib.hid hs
 have qt := fun s (h : s.length ≤ 1000000) W => tagged_any tag (by omega) s (by omega) W
 generalize hr : unlikeB tag l = r
 have HR := Lib.hid hr
 clear hv hs hr
 go_enter Tryz.func18, Tryz.ntmps18
 go_wp2_with fail
 go_loopw [5, 6] (fun s5 s6 wr => ∃ i : Nat, s6 = .int .i64 i ∧ i ≤ l.length ∧ Hid (SRow wr w.heap.size s5 ((l.take i).map (tagP tag))) ∧ Below w.heap.size w wr) (fun _ s6 _ => l.length - (intOf s6).toNat)
 case atStart => exact ⟨0, rfl, by omega, Lib.hid (SRow.nil _ _), Below.refl _ _⟩
 case round =>
  obtain ⟨i, rfl, hi, HS, hb⟩ := hrel
  obtain ⟨wr, hwr⟩ := Below.name hb
  subst hwr
  by_cases hlt : i < l.length
  ·have i1 : decide ((i : Int) < (l.length : Int)) = true := by simp; omega
   have i2 : (i : Int) < (l.length : Int) := by omega
   obtain ⟨g, off, e1, hg, c1⟩ := (HV.out.keep hb).at' i hlt
   subst e1
   have hsz := HSZ.out i hlt
   have HT := Lib.hid (map_takeS (tagP tag) l i hlt)
   have HLM : Hid (((l.take i).map (tagP tag)).length = i) := Lib.hid (by simp; omega)
   have q1 := qt (l.getD i []) hsz
   generalize l.getD i [] = x at *
   generalize tagP tag x = tx at *
   have HL := Lib.hid hlt
   clear hlt
   go_wp2_with fail
   refine (q1 _).mono ?_
   rintro e w2 ⟨rfl, hb2⟩
   have hb3 := hb.trans (hb2.mono hb.size)
   have HS2 := Lib.hid (HS.out.keep hb2)
   go_wp2_with (first
    | (at_builtin; refine wpList_appS rfl (.tmp 15) (.tmp 22) rfl w.heap.size _ ((l.take i).map (tagP tag)) rfl (HS2.out.keep (Below.allocS (Below.refl _ _) _)) _ 0 1 1 [tx] rfl rfl (ssrc1 _ tx 9) (by rw [HLM.out]; omega) (by have := hb3.size; simp; omega) ?_; intro v5 w5 hr5 hb5)
    | fail)
   exact ⟨⟨i + 1, by go_num, by have := HL.out; omega, Lib.hid (by rw [HT.out]; exact hr5), (Below.allocS hb3 _).trans hb5⟩, by have := HL.out; simp [intOf]; omega⟩
  ·have i1 : decide ((i : Int) < (l.length : Int)) = false := by simp; omega
   have i3 : decide (i < l.length) = false := by rw [decide_eq_false_iff_not]; omega
   have HM := HS.out
   rw [List.take_of_length_le (by omega)] at HM
   have HM1 := HM.ss
   obtain ⟨ma, mc, hmf⟩ := HM1.form
   rw [List.length_map] at hmf
   subst hmf
   have HMM : Hid (SS wr (.slice ma (l.map (tagP tag)).length mc) (l.map (tagP tag))) := Lib.hid (by rw [List.length_map]; exact HM1)
   have HV2 := Lib.hid (HV.out.keep hb)
   clear hi HS HM HM1
   go_wp2_with fail
   go_loopw [7] (fun s7 wq => ∃ j : Nat, s7 = .int .i64 j ∧ j ≤ l.length ∧ Hid (∀ i, i < j → ∀ k, k < i → clashB tag l i k = false) ∧ ∃ n, wq = wr.drewN n) (fun s7 _ => l.length - (intOf s7).toNat)
   case atStart => exact ⟨0, rfl, by omega, Lib.hid (fun i h => absurd h (by omega)), 0, rfl⟩
   case round =>
    obtain ⟨j, rfl, hj, HF, n1, rfl⟩ := hrel
    by_cases hlj : j < l.length
    ·have j1 : decide ((j : Int) < (l.length : Int)) = true := by simp; omega
     have j2 : (j : Int) < (l.length : Int) := by omega
     go_wp2_with fail
     go_loopw [8] (fun s8 wq => ∃ k : Nat, s8 = .int .i64 k ∧ k ≤ j ∧ Hid (∀ k', k' < k → clashB tag l j k' = false) ∧ ∃ n, wq = wr.drewN n) (fun s8 _ => j - (intOf s8).toNat)
     case atStart => exact ⟨0, rfl, by omega, Lib.hid (fun i h => absurd h (by omega)), n1, rfl⟩
     case round =>
      obtain ⟨k, rfl, hk, HF2, n2, rfl⟩ := hrel
      by_cases hlk : k < j
      ·have k1 : decide ((k : Int) < (j : Int)) = true := by simp; omega
       have k2 : (k : Int) < (l.length : Int) := by omega
       obtain ⟨g, off, e1, _, x1⟩ := HV2.out.at' j hlj
       subst e1
       obtain ⟨g', off', e1, _, x2⟩ := HV2.out.at' k (by omega)
       injection e1 with e1
       injection e1 with e1 e2 _
       subst e1 e2
       obtain ⟨g2, off2, e1, _, y1⟩ := HMM.out.at' j (by rw [List.length_map]; exact hlj)
       subst e1
       obtain ⟨g', off', e1, _, y2⟩ := HMM.out.at' k (by rw [List.length_map]; omega)
       injection e1 with e1
       injection e1 with e1 e2 _
       subst e1 e2
       rw [map_getS _ _ _ hlj] at y1
       rw [map_getS _ _ _ (show k < l.length from by omega)] at y2
       have HYES : Hid (tagP tag (l.getD j []) = tagP tag (l.getD k []) → l.getD j [] ≠ l.getD k [] → r = true) := Lib.hid (fun h1 h2 => by rw [← HR.out]; exact unlikeB_at hlj (by omega) h1 h2)
       have HNO : Hid (¬ (tagP tag (l.getD j []) = tagP tag (l.getD k []) ∧ l.getD j [] ≠ l.getD k []) → ∀ k', k' < k + 1 → clashB tag l j k' = false) := Lib.hid (fun h k' hk' => by
        rcases Nat.lt_or_ge k' k with h1 | h1
        ·exact HF2.out k' h1
        ·have : k' = k := by omega
         subst this
         unfold clashB
         rw [Bool.and_eq_false_iff]
         by_cases h3 : tagP tag (l.getD j []) = tagP tag (l.getD k' [])
         ·right
          rw [decide_eq_false_iff_not]
          exact fun h4 => h ⟨h3, h4⟩
         ·left; simpa using h3)
       generalize tagP tag (l.getD j []) = tj at *
       generalize tagP tag (l.getD k []) = tk at *
       generalize l.getD j [] = xj at *
       generalize l.getD k [] = xk at *
       have HLK := Lib.hid hlk
       have HJ := Lib.hid hlj
       clear hlk hlj hk hj
       by_cases ht1 : tj = tk
       ·have z1 : (tj == tk) = true := by simpa using ht1
        by_cases ht2 : xj = xk
        ·have z2 : (xj == xk) = true := by simpa using ht2
         have z3 : (xj != xk) = false := by simp [ht2]
         have HN := Lib.hid (HNO.out (fun h => h.2 ht2))
         clear ht1 ht2 HNO HYES
         go_wp2_with fail
         go_quiet (fail)
         go_wp2_with fail
         exact ⟨⟨k + 1, by go_num, by have := HLK.out; omega, HN, _, rfl⟩, by have := HLK.out; simp [intOf]; omega⟩
        ·have z2 : (xj == xk) = false := by simpa using ht2
         have z3 : (xj != xk) = true := by simpa using ht2
         have HE := Lib.hid (HYES.out ht1 ht2)
         clear ht1 ht2 HNO HYES
         go_wp2_with fail
         go_quiet (fail)
         go_wp2_with fail
         go_ret
         exact ⟨by rw [HE.out]; rfl, below_drewN (below_drewN hb _) _⟩
       ·have z1 : (tj == tk) = false := by simpa using ht1
        have HN := Lib.hid (HNO.out (fun h => ht1 h.1))
        clear ht1 HNO HYES
        go_wp2_with fail
        go_quiet (fail)
        go_wp2_with fail
        exact ⟨⟨k + 1, by go_num, by have := HLK.out; omega, HN, _, rfl⟩, by have := HLK.out; simp [intOf]; omega⟩
      ·have k1 : decide ((k : Int) < (j : Int)) = false := by simp; omega
       have k3 : decide (k < j) = false := by rw [decide_eq_false_iff_not]; omega
       have HN : Hid (∀ i, i < j + 1 → ∀ k, k < i → clashB tag l i k = false) := Lib.hid (fun i hi k' hk' => by
        rcases Nat.lt_or_ge i j with h1 | h1
        ·exact HF.out i h1 k' hk'
        ·have : i = j := by omega
         subst this
         exact HF2.out k' (by omega))
       have HJ := Lib.hid hlj
       clear hlk hk hlj
       go_wp2_with fail
       exact ⟨⟨j + 1, by go_num, by have := HJ.out; omega, HN, _, rfl⟩, by have := HJ.out; simp [intOf]; omega⟩
    ·have j1 : decide ((j : Int) < (l.length : Int)) = false := by simp; omega
     have j3 : decide (j < l.length) = false := by rw [decide_eq_false_iff_not]; omega
     have HE : Hid (r = false) := Lib.hid (by rw [← HR.out]; exact unlike_no (fun i hi k hk => HF.out i (by omega) k hk))
     clear hlj
     go_wp2_with fail
     go_ret
     exact ⟨by rw [HE.out]; rfl, below_drewN hb _⟩
end Go.Proofs.YthkpmlfaddlieaaGreatDoor
