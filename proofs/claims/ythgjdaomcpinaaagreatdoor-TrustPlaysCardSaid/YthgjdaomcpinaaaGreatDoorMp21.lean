/- MDec, RdecP, MRdecP, MBackP, TrustP. -/
import Derived.Test.YthgjdaomcpinaaaGreatDoorMp20
set_option linter.unnecessarySimpa false
set_option linter.unusedSimpArgs false
set_option linter.unusedVariables false
set_option maxRecDepth 100000
set_option maxHeartbeats 32000000
namespace Go.Proofs.YthgjdaomcpinaaaGreatDoor
open Go.RowKit Pl
namespace Pl
def mSt (s : Bs) : Nat → List (Bs × Int) × Bs × Int
 | 0 => ([], (mNum s 0).2.1, (mNum s 0).2.2)
 | i + 1 => ((mSt s i).1 ++ [((mText (mSt s i).2.1 (mSt s i).2.2 6).1, ((mNum (mText (mSt s i).2.1 (mSt s i).2.2 6).2.1 (mText (mSt s i).2.1 (mSt s i).2.2 6).2.2).1 : Int))],
   (mNum (mText (mSt s i).2.1 (mSt s i).2.2 6).2.1 (mText (mSt s i).2.1 (mSt s i).2.2 6).2.2).2.1,
   (mNum (mText (mSt s i).2.1 (mSt s i).2.2 6).2.1 (mText (mSt s i).2.1 (mSt s i).2.2 6).2.2).2.2)
def stepM (x : List (Bs × Int) × Bs × Int) : List (Bs × Int) × Bs × Int :=
 (x.1 ++ [((mText x.2.1 x.2.2 6).1, ((mNum (mText x.2.1 x.2.2 6).2.1 (mText x.2.1 x.2.2 6).2.2).1 : Int))], (mNum (mText x.2.1 x.2.2 6).2.1 (mText x.2.1 x.2.2 6).2.2).2.1, (mNum (mText x.2.1 x.2.2 6).2.1 (mText x.2.1 x.2.2 6).2.2).2.2)
theorem mSt_succ (s : Bs) (i : Nat) : mSt s (i + 1) = stepM (mSt s i) := rfl
theorem mSt_len (s : Bs) : ∀ i, (mSt s i).1.length = i
 | 0 => rfl
 | i + 1 => by simp [mSt, mSt_len s i]
theorem mSt_bad (s : Bs) (i : Nat) (h : (mSt s i).2.2 ≠ 0) : ∀ j, (mSt s (i + j)).2.2 ≠ 0
 | 0 => h
 | j + 1 => by
  have h2 := mSt_bad s i h j
  rw [← Nat.add_assoc]
  simp only [mSt, mText, mNum, if_pos h2]
  exact h2
def decM (s : Bs) : List (Bs × Int) × Int :=
 if mEnd (mSt s (mNum s 0).1).2.1 (mSt s (mNum s 0).1).2.2 = 0 ∧ chkM (mSt s (mNum s 0).1).1 = true then ((mSt s (mNum s 0).1).1, 0) else ([], 3)
theorem mEnd_bad (s : Bs) (c : Int) (h : c ≠ 0) : mEnd s c ≠ 0 := by
 unfold mEnd
 rw [if_neg (fun e => h e.1)]
 exact h
theorem decM_not (s : Bs) (i : Nat) (hi : i ≤ 8) (hn : i < (mNum s 0).1) (h : i = 8 ∨ (mSt s i).2.2 ≠ 0) : decM s = ([], 3) := by
 unfold decM
 rw [if_neg]
 rintro ⟨h1, h2⟩
 rcases h with rfl | h
 ·simp only [chkM, Bool.and_eq_true, decide_eq_true_eq] at h2
  have := h2.1.2
  rw [mSt_len] at this
  omega
 ·obtain ⟨j, hj⟩ : ∃ j, (mNum s 0).1 = i + j := ⟨(mNum s 0).1 - i, by omega⟩
  rw [hj] at h1
  exact mEnd_bad _ _ (mSt_bad s i h j) h1
end Pl
theorem MRow.mod {w w' : World} {b p : Nat} {v : Value} {l : List (Bs × Int)} (h : MRow w b v l) (hm : Mod [p] w w') (hp : p < b) : MRow w' b v l := by
 refine h.kept (fun k hk => hm.block k ?_ ?_)
 ·rcases h.cells with ⟨rfl, _⟩ | ⟨g, cap, rfl, _, hg, _⟩
  ·cases hk
  ·cases hk; exact hg
 ·have := h.own k hk
  simp; omega
theorem Rdr.below {B : Nat} {W w : World} {p : Nat} {s : Bs} {c : Int} (h : Rdr W p s c) (hb : Below B W w) (hp : p < B) : Rdr w p s c := by
 obtain ⟨l, a, h1, h2, h3, K⟩ := h
 exact ⟨l, a, h1, h2, h3, K.of_block (hb.block p hp) hb.size⟩
theorem MRow.low {w : World} {b c : Nat} {v : Value} {l : List (Bs × Int)} (h : MRow w b v l) (hc : c ≤ b) : MRow w c v l := by
 refine ⟨h.1, h.2.imp id ?_⟩
 rintro ⟨g, cap, cur, hv, h1, h2⟩
 exact ⟨g, cap, cur, hv, Nat.le_trans hc h1, h2⟩
theorem MRow.drewN {w : World} {b : Nat} {v : Value} {l : List (Bs × Int)} (h : MRow w b v l) (n : Nat) : MRow (w.drewN n) b v l := h
theorem MRow.alloc {w : World} {b : Nat} {v : Value} {l : List (Bs × Int)} (h : MRow w b v l) (o : Obj) : MRow (w.alloc o) b v l := by
 refine h.kept (fun k hk => Below.heap_alloc _ _ _ ?_)
 rcases h.cells with ⟨rfl, rfl⟩ | ⟨g, cap, rfl, _, hlt, _⟩
 ·cases hk
 ·cases hk; exact hlt
theorem rcode_any (s : Bs) (c : Int) (p : Nat) (w : World) (R : Rdr w p s c) :
  Calls Tryz.prog 109 #[.pointer (some ⟨p, 0, none⟩)] w fun e w' => e = .returned (.int .i64 c) ∧ ∃ n, w' = w.drewN n := by
 obtain ⟨l, a, h1, h2, rfl, B⟩ := id R
 obtain ⟨b1, b2, b3⟩ := id B
 go_enter Tryz.func109, Tryz.ntmps109
 go_wp2_with fail
 all_goals (go_ret; exact ⟨rfl, 0, rfl⟩)
theorem mdecode_any (s : Bs) (hs : s.length ≤ 9223372036854775807) (w : World) :
  Calls Tryz.prog 56 #[.string ⟨List.toArray s⟩] w fun e w' => ∃ v, e = .returned (.tuple #[v, .int .i64 ((decM s).2)]) ∧ MRow w' w.heap.size v (decM s).1 ∧ Below w.heap.size w w' := by
 generalize hd : decM s = d
 have HD := Lib.hid hd
 clear hd
 go_enter Tryz.func56, Tryz.ntmps56
 go_wp2_with fail
 refine (readNew s _).mono ?_
 rintro e w1 ⟨rfl, rfl⟩
 have R0 : Rdr (w.alloc (.cells #[.string ⟨List.toArray s⟩, .int .i64 0, .int .i64 0] 152)) w.heap.size s 0 := ⟨s, 0, hs, by omega, rfl, Blk.new w _ _⟩
 have hb0 : Below w.heap.size w (w.alloc (.cells #[.string ⟨List.toArray s⟩, .int .i64 0, .int .i64 0] 152)) := Below.allocS (Below.refl _ _) _
 go_wp2_with fail
 refine (rnum_any s 0 _ _ R0).mono ?_
 rintro e w2 ⟨rfl, R2, m2⟩
 have hb2 := Below.mod hb0 m2 (by simp) (by simp)
 clear R0 hb0 m2
 have hmany : (mNum s 0).1 < 9223372036854775808 := by
  unfold mNum
  split
  ·simp
  ·split
   ·simp
   ·rename_i h; exact (take_le s (by simpa using h)).1
 generalize hm : (mNum s 0).1 = many at *
 have HM := Lib.hid hm
 clear hm
 have R3 : Rdr w2 w.heap.size (mSt s 0).2.1 (mSt s 0).2.2 := R2
 clear R2
 go_wp2_with fail
 go_loopw [5, 7] (fun s5 s7 wr => ∃ i : Nat, i ≤ 8 ∧ i ≤ many ∧ s7 = .int .i64 i ∧ MRow wr (w.heap.size + 1) s5 (mSt s i).1 ∧ w.heap.size + 1 ≤ wr.heap.size ∧ Rdr wr w.heap.size (mSt s i).2.1 (mSt s i).2.2 ∧ Below w.heap.size w wr) (fun _ s7 _ => 8 - (intOf s7).toNat)
 have hs2 : w.heap.size + 1 ≤ w2.heap.size := Nat.succ_le_of_lt R3.lt
 case atStart => exact ⟨0, by omega, by omega, rfl, MRow.nil _ _, hs2, R3, hb2⟩
 case round =>
  obtain ⟨i, hi, him, rfl, hR, hsz, R, hb⟩ := hrel
  obtain ⟨wq, h⟩ := Below.nm hb
  subst h
  have hll := mSt_len s i
  have hlow := hR.low (Nat.le_succ _)
  by_cases hlt : i < many
  ·have HN := Lib.hid (fun h => decM_not s i hi (by rw [HM.out]; exact hlt) h)
   rw [HD.out] at HN
   by_cases h8 : i < 8
   ·have hd1 : decide ((i : Int) < (many : Int)) = true := by simp; omega
    have hd2 : decide ((i : Int) ≤ 7) = true := by simp; omega
    have hnx := mSt_succ s i
    unfold stepM at hnx
    generalize mSt s i = x at *
    obtain ⟨l, t, c⟩ := x
    simp only at hR R hll hnx HN hlow
    go_wp2_with fail
    refine (rcode_any _ _ _ _ R).mono ?_
    rintro e w3 ⟨rfl, q, rfl⟩
    by_cases hc : c = 0
    ·subst hc
     have R4 : Rdr (wq.drewN q) w.heap.size t 0 := R.drewN q
     go_wp2_with fail
     refine (rtext_any t 0 6 _ _ R4).mono ?_
     rintro e w5 ⟨rfl, R5, m5⟩
     have hR5 := (hR.drewN q).mod m5 (Nat.lt_succ_self _)
     have hb5 := Below.mod (below_drewN hb q) m5 (by simpa using hb.size) (by simp)
     have hsz5 := m5.size
     clear R4 R m5
     generalize mText t 0 6 = y at *
     obtain ⟨n, t2, c2⟩ := y
     simp only at R5 hnx
     go_wp2_with fail
     refine (rnum_any t2 c2 _ _ R5).mono ?_
     rintro e w6 ⟨rfl, R6, m6⟩
     have hR6 := hR5.mod m6 (Nat.lt_succ_self _)
     have hb6 := Below.mod hb5 m6 hb5.size (by simp)
     have hsz6 := m6.size
     clear R5 m6 hR5 hb5
     generalize mNum t2 c2 = z at *
     obtain ⟨k, t3, c3⟩ := z
     simp only at R6 hnx
     have hsz7 : w.heap.size + 1 ≤ w6.heap.size := by simp at hsz5; omega
     go_wp2_with (at_builtin; refine wpList_appM rfl (.tmp 26) (.tmp 32) rfl (w.heap.size + 1) _ l rfl (hR6.alloc _) w6.heap.size 0 1 1 [(n, (k : Int))] rfl rfl (msrc1 _ _ _ _) (by simp; omega) (by simp; omega) ?_; rintro v' w7 hS7 hb7)
     have R7 := (R6.alloc (.cells #[.string ⟨List.toArray n⟩, .int .i64 k] 130)).below hb7 (Nat.lt_succ_self _)
     have hb8 := (Below.allocS hb6 (.cells #[.string ⟨List.toArray n⟩, .int .i64 k] 130)).trans (hb7.mono (Nat.le_succ _))
     have hsz8 := hb7.size
     refine ⟨⟨i + 1, by omega, by omega, by go_num, ?_, by simp at hsz8; omega, ?_, hb8⟩, by simp [intOf]; omega⟩
     ·rw [hnx]; exact hS7
     ·rw [hnx]; exact R7
    ·have hdd := HN.out (.inr hc)
     subst hdd
     have R4 : Rdr (wq.drewN q) w.heap.size t c := R.drewN q
     have hc2 : (c == 0) = false := by simpa using hc
     go_wp2_with fail
     refine (rend_any t c _ _ R4).mono ?_
     rintro e w5 ⟨rfl, m5⟩
     have hb5 := Below.mod (below_drewN hb q) m5 (by simpa using hb.size) (by simp)
     have hme : (mEnd t c != 0) = true := by simpa using mEnd_bad t c hc
     go_wp2_with fail
     all_goals (go_ret2; exact ⟨.slice none 0 0, rfl, MRow.nil _ _, hb5⟩)
   ·have h88 : i = 8 := by omega
    have hdd := HN.out (.inl h88)
    subst hdd
    have hd1 : decide ((i : Int) < (many : Int)) = true := by simp; omega
    have hd2 : decide ((i : Int) ≤ 7) = false := by simp; omega
    clear HN
    generalize mSt s i = x at *
    obtain ⟨l, t, c⟩ := x
    simp only at hR R hll hlow
    obtain ⟨va, vc, rfl⟩ := hR.form
    have hlm : ((l.length : Int) != (many : Int)) = true := by simp; omega
    clear h88
    go_wp2_with fail
    refine (rend_any t c _ _ R).mono ?_
    rintro e w5 ⟨rfl, m5⟩
    have hb5 := Below.mod hb m5 hb.size (by simp)
    cases hme : (mEnd t c != 0)
    ·go_wp2_with fail
     all_goals (go_ret2; exact ⟨.slice none 0 0, rfl, MRow.nil _ _, hb5⟩)
    ·go_wp2_with fail
     all_goals (go_ret2; exact ⟨.slice none 0 0, rfl, MRow.nil _ _, hb5⟩)
  ·obtain rfl : i = many := by omega
   have hd1 : decide ((i : Int) < (i : Int)) = false := by simp
   have HD2 : Hid ((if mEnd (mSt s i).2.1 (mSt s i).2.2 = 0 ∧ chkM (mSt s i).1 = true then ((mSt s i).1, (0 : Int)) else ([], 3)) = d) := Lib.hid (by
    rw [← HD.out]; unfold decM; rw [HM.out])
   clear HD HM
   generalize mSt s i = x at *
   obtain ⟨l, t, c⟩ := x
   simp only at hR R hll hlow HD2
   obtain ⟨va, vc, rfl⟩ := hR.form
   have hlm : ((l.length : Int) != (i : Int)) = false := by simp; omega
   clear hll
   go_wp2_with fail
   refine (rend_any t c _ _ R).mono ?_
   rintro e w5 ⟨rfl, m5⟩
   have hb5 := Below.mod hb m5 hb.size (by simp)
   have hR5 := hR.mod m5 (Nat.lt_succ_self _)
   by_cases hme : mEnd t c = 0
   ·rw [hme]
    have hchk := mcheck_any _ l _ hR5.ms
    cases hc : chkM l
    ·rw [hc] at hchk
     have hdd : ([], (3 : Int)) = d := by rw [← HD2.out, if_neg]; rw [hc]; simp
     subst hdd
     have HC := Lib.hid hchk
     clear hchk HD2 hc hme
     go_wp2_with fail
     refine HC.out.mono ?_
     rintro e w6 ⟨rfl, hb6⟩
     unfold setI
     go_wp2_with fail
     all_goals (go_ret2; exact ⟨.slice none 0 0, rfl, MRow.nil _ _, hb5.trans (hb6.mono hb5.size)⟩)
    ·rw [hc] at hchk
     have hdd : (l, (0 : Int)) = d := by rw [← HD2.out, if_pos ⟨hme, hc⟩]
     subst hdd
     have HC := Lib.hid hchk
     clear hchk HD2 hc hme
     go_wp2_with fail
     refine HC.out.mono ?_
     rintro e w6 ⟨rfl, hb6⟩
     unfold setI
     go_wp2_with fail
     all_goals (go_ret2; exact ⟨_, rfl, (hR5.keep hb6).low (Nat.le_succ _), hb5.trans (hb6.mono hb5.size)⟩)
   ·have hdd : ([], (3 : Int)) = d := by rw [← HD2.out, if_neg]; exact fun h => hme h.1
    subst hdd
    have hme2 : (mEnd t c != 0) = true := by simpa using hme
    clear HD2
    go_wp2_with fail
    all_goals (go_ret2; exact ⟨.slice none 0 0, rfl, MRow.nil _ _, hb5⟩)
end Go.Proofs.YthgjdaomcpinaaaGreatDoor
namespace Go.Proofs.YthgjdaomcpinaaaGreatDoor
namespace Pl
theorem mEnd_zero {s : Bs} {c : Int} (h : mEnd s c = 0) : c = 0 ∧ s = [] := by
 unfold mEnd at h
 split at h
 ·cases h
 ·rename_i h1
  subst h
  exact ⟨rfl, by simpa using h1⟩
end Pl
end Go.Proofs.YthgjdaomcpinaaaGreatDoor
namespace Go.Proofs.YthgjdaomcpinaaaGreatDoor
namespace Pl
theorem mNum_eats (s : Bs) (c : Int) (h : (mNum s c).2.2 = 0) : c = 0 ∧ s = num (mNum s c).1 ++ (mNum s c).2.1 := by
 unfold mNum at h ⊢
 split at h
 ·rename_i hc; exact absurd h hc
 ·rename_i hc
  split at h
  ·rename_i h2; exact absurd h h2
  ·rename_i h2
   have h3 : (take s).2.2 = 0 := by simpa using h2
   rw [if_neg hc, if_neg h2]
   exact ⟨by simpa using hc, take_eats s h3⟩
theorem mSt_eats (s : Bs) : ∀ i, (mSt s i).2.2 = 0 → s = num (mNum s 0).1 ++ (memsB (mSt s i).1 ++ (mSt s i).2.1)
 | 0, h => by simpa [mSt, memsB] using (mNum_eats s 0 h).2
 | i + 1, h => by
  rw [mSt_succ] at h ⊢
  have ih := mSt_eats s i
  generalize mSt s i = x at *
  obtain ⟨l, t, c⟩ := x
  simp only [stepM] at h ⊢
  obtain ⟨h1, h2⟩ := mNum_eats _ _ h
  obtain ⟨h3, h4, _⟩ := mText_eats _ _ _ h1
  subst h3
  have ih := ih rfl
  simp only at ih
  rw [memsB_app]
  simp only [Int.toNat_natCast]
  rw [h2] at h4
  generalize mNum (mText t 0 6).2.1 (mText t 0 6).2.2 = z at *
  rw [List.append_assoc, List.append_assoc, ← h4]
  exact ih
def rdecM (s : Bs) : List (Bs × Int) × Int :=
 if (mNum s 0).2.2 = 0 ∧ (mNum s 0).1 ≤ 7 ∧ (mSt s (mNum s 0).1).2.2 = 0 ∧ chkM (mSt s (mNum s 0).1).1 = true ∧ encM (mSt s (mNum s 0).1).1 = s then ((mSt s (mNum s 0).1).1, 0) else ([], 3)
theorem rdecM_dec (s : Bs) : rdecM s = decM s := by
 have hl := mSt_len s (mNum s 0).1
 have he := mSt_eats s (mNum s 0).1
 have hb : (mNum s 0).2.2 ≠ 0 → (mSt s (mNum s 0).1).2.2 ≠ 0 := by
  intro h
  have := mSt_bad s 0 h (mNum s 0).1
  rwa [Nat.zero_add] at this
 unfold rdecM decM
 generalize mSt s (mNum s 0).1 = x at *
 obtain ⟨l, t, c⟩ := x
 simp only at *
 by_cases hc : c = 0
 ·subst hc
  have he := he rfl
  have h0 : (mNum s 0).2.2 = 0 := by
   by_cases h : (mNum s 0).2.2 = 0
   ·exact h
   ·exact absurd rfl (hb h)
  have he2 : s = encM l ++ t := by rw [encM, hl, List.append_assoc]; exact he
  by_cases hk : chkM l = true
  ·have h7 : (mNum s 0).1 ≤ 7 := by
    simp only [chkM, Bool.and_eq_true, decide_eq_true_eq] at hk
    have := hk.1.2
    omega
   by_cases ht : t = []
   ·subst ht
    rw [List.append_nil] at he2
    rw [if_pos ⟨h0, h7, rfl, hk, he2.symm⟩, if_pos ⟨by simp [mEnd], hk⟩]
   ·rw [if_neg, if_neg]
    ·rintro ⟨h, _⟩
     exact ht (mEnd_zero h).2
    ·rintro ⟨_, _, _, _, h⟩
     apply ht
     have := congrArg List.length he2
     rw [List.length_append, h] at this
     exact List.eq_nil_of_length_eq_zero (by omega)
  ·rw [if_neg (fun h => hk h.2.2.2.1), if_neg (fun h => hk h.2)]
 ·rw [if_neg (fun h => hc h.2.2.1), if_neg (fun h => mEnd_bad t c hc h.1)]
end Pl
end Go.Proofs.YthgjdaomcpinaaaGreatDoor
namespace Go.Proofs.YthgjdaomcpinaaaGreatDoor
namespace Pl
theorem mNum_num (n : Nat) (h : n < 9223372036854775808) (r : Bs) : mNum (num n ++ r) 0 = (n, r, 0) := by
 unfold mNum
 rw [take_num n h r]
 simp
theorem mSt_enc (l : List (Bs × Int)) (hl : l.length ≤ 7) (h : ∀ i, i < l.length → (l.getD i ([], 0)).1.length ≤ 6 ∧ 1 ≤ (l.getD i ([], 0)).2 ∧ (l.getD i ([], 0)).2 ≤ 1000) :
  ∀ i, i ≤ l.length → mSt (encM l) i = (l.take i, memsB (l.drop i), 0)
 | 0, _ => by simp [mSt, encM, mNum_num l.length (by omega)]
 | i + 1, hi => by
  have ih := mSt_enc l hl h i (by omega)
  obtain ⟨h1, h2, h3⟩ := h i (by omega)
  rw [mSt_succ, ih, drop_getD l i (by omega), take_getD l i (by omega)]
  generalize l.getD i ([], 0) = x at *
  obtain ⟨n, p⟩ := x
  simp only at h1 h2 h3
  simp only [stepM, memsB]
  rw [List.append_assoc, mText_text n 6 (by omega) (by omega)]
  simp only
  rw [mNum_num p.toNat (by omega)]
  simp only [Prod.mk.injEq, List.append_cancel_left_eq, List.cons.injEq, and_true, true_and]
  omega
theorem decM_enc (l : List (Bs × Int)) (hc : chkM l = true) : decM (encM l) = (l, 0) := by
 have hc2 := hc
 simp only [chkM, Bool.and_eq_true, decide_eq_true_eq] at hc2
 have h := mSt_enc l hc2.1.2 (okM_at l [] hc2.2) l.length (by omega)
 have hn : (mNum (encM l) 0).1 = l.length := by rw [encM, mNum_num l.length (by omega)]
 unfold decM
 rw [hn, h]
 simp only [List.take_length, List.drop_length, memsB]
 rw [if_pos ⟨by simp [mEnd], hc⟩]
theorem decM_two (s : Bs) : (∃ l, decM s = (l, 0) ∧ chkM l = true ∧ encM l = s) ∨ decM s = ([], 3) := by
 rw [← rdecM_dec]
 unfold rdecM
 split
 ·rename_i h
  exact .inl ⟨_, rfl, h.2.2.2.1, h.2.2.2.2⟩
 ·exact .inr rfl
end Pl
end Go.Proofs.YthgjdaomcpinaaaGreatDoor
namespace Go.Proofs.YthgjdaomcpinaaaGreatDoor
open Go.RowKit Pl
namespace Pl
structure Tr where
 head : Hd
 set : List (Bs × Int)
 at_ : Int
def trZ : Tr := ⟨hdZ, [], 0⟩
def fineT (t : Tr) : Bool := fineH t.head && inH t.at_ 1099511627776 && chkM t.set && decide (dgM t.set = t.head.next)
def writT (t : Tr) : Bs := text (writH t.head) ++ text (encM t.set) ++ num t.at_.toNat
structure RdT where
 t : Tr
 s : Bs
 c : Int
 e : Int
 f : Int
def rdT (s : Bs) : RdT :=
 let a := mText s 0 65536
 let b := mText a.2.1 a.2.2 65536
 let n := mNum b.2.1 b.2.2
 ⟨⟨(decH a.1).1, (decM b.1).1, n.1⟩, n.2.1, n.2.2, (decH a.1).2, (decM b.1).2⟩
def decT (s : Bs) : Tr × Int := if mEnd (rdT s).s (rdT s).c = 0 ∧ (rdT s).e = 0 ∧ (rdT s).f = 0 ∧ fineT (rdT s).t = true then ((rdT s).t, 0) else (trZ, 3)
def rdecT (s : Bs) : Tr × Int := if (rdT s).c = 0 ∧ fineT (rdT s).t = true ∧ writT (rdT s).t = s then ((rdT s).t, 0) else (trZ, 3)
theorem fineT_parts {t : Tr} (h : fineT t = true) : fineH t.head = true ∧ (0 ≤ t.at_ ∧ t.at_ ≤ 1099511627776) ∧ chkM t.set = true ∧ dgM t.set = t.head.next := by
 unfold fineT inH at h
 simp only [Bool.and_eq_true, decide_eq_true_eq] at h
 exact ⟨h.1.1.1, h.1.1.2, h.1.2, h.2⟩
theorem rdT_eats (s : Bs) (hc : (rdT s).c = 0) (hf : fineT (rdT s).t = true) : (rdT s).e = 0 ∧ (rdT s).f = 0 ∧ s = writT (rdT s).t ++ (rdT s).s := by
 obtain ⟨f1, _, f3, _⟩ := fineT_parts hf
 unfold rdT at hc f1 f3 ⊢
 simp only at hc f1 f3 ⊢
 obtain ⟨h1, e1⟩ := mNumE _ _ hc
 obtain ⟨h2, e2, _⟩ := mText_eats _ _ _ h1
 obtain ⟨_, e3, _⟩ := mText_eats _ _ _ h2
 have hH : (decH (mText s 0 65536).1).2 = 0 ∧ writH (decH (mText s 0 65536).1).1 = (mText s 0 65536).1 := by
  rcases decH_two (mText s 0 65536).1 with h | h
  ·exact ⟨h.1, h.2.2⟩
  ·rw [h] at f1
   exact absurd f1 (by rw [fine_hdZ]; decide)
 generalize mText s 0 65536 = a at *
 have hM : (decM (mText a.2.1 a.2.2 65536).1).2 = 0 ∧ encM (decM (mText a.2.1 a.2.2 65536).1).1 = (mText a.2.1 a.2.2 65536).1 := by
  rcases decM_two (mText a.2.1 a.2.2 65536).1 with ⟨l, h, _, h3⟩ | h
  ·rw [h]
   exact ⟨rfl, h3⟩
  ·rw [h] at f3
   exact absurd f3 (by decide)
 generalize mText a.2.1 a.2.2 65536 = b at *
 refine ⟨hH.1, hM.1, ?_⟩
 unfold writT
 simp only [Int.toNat_natCast, hH.2, hM.2, List.append_assoc]
 rw [← e1, ← e2]
 exact e3
theorem rdecT_eq (s : Bs) : rdecT s = decT s := by
 unfold rdecT decT
 by_cases hc : (rdT s).c = 0
 ·by_cases hf : fineT (rdT s).t = true
  ·obtain ⟨h1, h2, he⟩ := rdT_eats s hc hf
   by_cases hs : (rdT s).s = []
   ·rw [hs, List.append_nil] at he
    rw [if_pos ⟨hc, hf, he.symm⟩, if_pos ⟨by simp [mEnd, hc, hs], h1, h2, hf⟩]
   ·rw [if_neg, if_neg]
    ·rintro ⟨h, _⟩
     exact hs (mEnd0 _ _ h).1
    ·rintro ⟨_, _, h⟩
     apply hs
     have := congrArg List.length he
     rw [List.length_append, h] at this
     exact List.eq_nil_of_length_eq_zero (by omega)
  ·rw [if_neg (fun h => hf h.2.1), if_neg (fun h => hf h.2.2.2)]
 ·rw [if_neg (fun h => hc h.1), if_neg (fun h => hc (mEnd0 _ _ h.1).2)]
theorem rdT_writ {t : Tr} (h : fineT t = true) (r : Bs) : rdT (writT t ++ r) = ⟨t, r, 0, 0, 0⟩ := by
 obtain ⟨f1, f2, f3, f4⟩ := fineT_parts h
 have h1 := writH_len f1
 have h2 := encM_len t.set f3
 unfold rdT writT
 simp only [List.append_assoc]
 rw [mText_text _ 65536 (by omega) (by omega)]
 simp only
 rw [mText_text _ 65536 (by omega) (by omega)]
 simp only
 rw [mNumB _ (by omega)]
 simp only
 rw [decH_writ f1, decM_enc _ f3, show ((t.at_.toNat : Nat) : Int) = t.at_ from by omega]
theorem decT_writ {t : Tr} (h : fineT t = true) : decT (writT t) = (t, 0) := by
 have := rdT_writ h []
 rw [List.append_nil] at this
 unfold decT
 rw [this]
 exact if_pos ⟨rfl, rfl, rfl, h⟩
theorem writT_len {t : Tr} (h : fineT t = true) : (writT t).length ≤ 2000 := by
 obtain ⟨f1, f2, f3, f4⟩ := fineT_parts h
 have h1 := writH_len f1
 have h2 := encM_len t.set f3
 have h3 := text_len (writH t.head)
 have h4 := text_len (encM t.set)
 have h5 := num_len' t.at_.toNat
 unfold writT
 simp only [List.length_append]
 omega
end Pl
end Go.Proofs.YthgjdaomcpinaaaGreatDoor
