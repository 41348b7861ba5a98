/- MRdec, RefF. -/
import Derived.Test.YthgjdaomcpinaaaGreatDoorMp33
set_option linter.unnecessarySimpa false
set_option linter.unusedSimpArgs false
set_option linter.unusedVariables false
set_option maxRecDepth 100000
set_option maxHeartbeats 32000000
namespace Go.Proofs.YthgjdaomcpinaaaGreatDoor
open Go.RowKit Pl
theorem mNum_rest (s : Bs) (c : Int) : (mNum s c).2.1.length ≤ s.length := by
 unfold mNum
 split
 ·simp
 ·split
  ·simp
  ·rename_i h
   obtain ⟨_, k, _, _, hk⟩ := take_le s (by simpa using h)
   show (Pl.take s).2.1.length ≤ s.length
   rw [hk]; simp
theorem mText_rest (s : Bs) (c most : Int) : (mText s c most).2.1.length ≤ s.length := by
 unfold mText
 split
 ·simp
 ·split
  ·simp
  ·exact (tx_len s most).2
theorem mSt_rest (s : Bs) : ∀ i, (mSt s i).2.1.length ≤ s.length
 | 0 => mNum_rest s 0
 | i + 1 => by
  rw [mSt_succ]
  exact Nat.le_trans (mNum_rest _ _) (Nat.le_trans (mText_rest _ _ _) (mSt_rest s i))
theorem RRdr.below {B : Nat} {W w : World} {p : Nat} {s : Bs} {c : Int} (h : RRdr W p s c) (hb : Below B W w) (hp : p < B) : RRdr w p s c :=
 (show Blk W p _ from h).of_block (hb.block p hp) hb.size
theorem rmdecode_any (s : Bs) (hs : s.length ≤ 100000) (w : World) :
  Calls Tryz.prog 61 #[.string ⟨List.toArray s⟩] w fun e w' => ∃ v, e = .returned (.tuple #[v, .int .i64 ((decM s).2)]) ∧ MRow w' w.heap.size v (decM s).1 ∧ Below w.heap.size w w' := by
 rw [← rdecM_dec]
 generalize hd : rdecM s = d
 have HD := Lib.hid hd
 clear hd
 have R0 : RRdr (w.alloc (.cells #[.string ⟨List.toArray s⟩, .int .i64 0] 107)) w.heap.size s 0 := Blk.new w _ _
 have hb0 : Below w.heap.size w (w.alloc (.cells #[.string ⟨List.toArray s⟩, .int .i64 0] 107)) := Below.allocS (Below.refl _ _) _
 go_enter Tryz.func61, Tryz.ntmps61
 go_wp2_with fail
 refine (rrNum_any s 0 _ _ (by omega) R0).mono ?_
 rintro e w2 ⟨rfl, R2, m2⟩
 have hb2 := Below.mod hb0 m2 (by simp) (by simp)
 clear R0 hb0 m2
 have R3 : RRdr w2 w.heap.size (mSt s 0).2.1 (mSt s 0).2.2 := R2
 obtain ⟨b1, b2, b3⟩ := id (show Blk w2 w.heap.size _ from R2)
 by_cases hc0 : (mNum s 0).2.2 = 0
 ·rw [hc0] at b1
  by_cases h7 : (mNum s 0).1 ≤ 7
  ·have hd7 : decide ((7 : Int) < ((mNum s 0).1 : Int)) = false := by simp; omega
   generalize hm : (mNum s 0).1 = many at *
   have HM := Lib.hid hm
   clear hm
   go_wp2_with fail
   clear b1 b2 b3 R2
   have hs2 : w.heap.size + 1 ≤ w2.heap.size := Nat.succ_le_of_lt (show Blk w2 w.heap.size _ from R3).lt
   go_loopw [6, 7] (fun s6 s7 wr => ∃ i : Nat, i ≤ many ∧ s7 = .int .i64 i ∧ MRow wr (w.heap.size + 1) s6 (mSt s i).1 ∧ w.heap.size + 1 ≤ wr.heap.size ∧ RRdr wr w.heap.size (mSt s i).2.1 (mSt s i).2.2 ∧ Below w.heap.size w wr) (fun _ s7 _ => many - (intOf s7).toNat)
   case atStart => exact ⟨0, by omega, rfl, MRow.nil _ _, hs2, R3, hb2⟩
   case round =>
    obtain ⟨i, hi, rfl, hR, hsz, R, hb⟩ := hrel
    obtain ⟨wq, h⟩ := Below.nm hb
    subst h
    have hll := mSt_len s i
    have hrest := mSt_rest s i
    by_cases hlt : i < many
    ·have hd1 : decide ((i : Int) < (many : Int)) = true := by simp; omega
     have hnx := mSt_succ s i
     unfold stepM at hnx
     generalize mSt s i = x at *
     obtain ⟨l, t, c⟩ := x
     simp only at hR R hll hnx hrest
     go_wp2_with fail
     refine (rrText_any t c 6 _ _ (by omega) R).mono ?_
     rintro e w5 ⟨rfl, R5, m5⟩
     have hR5 := hR.mod m5 (Nat.lt_succ_self _)
     have hb5 := Below.mod hb m5 hb.size (by simp)
     have hsz5 := m5.size
     have hrest2 := Nat.le_trans (mText_rest t c 6) hrest
     clear R m5
     generalize mText t c 6 = y at *
     obtain ⟨n, t2, c2⟩ := y
     simp only at R5 hnx hrest2
     go_wp2_with fail
     refine (rrNum_any t2 c2 _ _ (by omega) R5).mono ?_
     rintro e w6 ⟨rfl, R6, m6⟩
     have hR6 := hR5.mod m6 (Nat.lt_succ_self _)
     have hb6 := Below.mod hb5 m6 hb5.size (by simp)
     have hsz6 := m6.size
     clear R5 m6 hR5 hb5
     generalize mNum t2 c2 = z at *
     obtain ⟨k, t3, c3⟩ := z
     simp only at R6 hnx
     have hsz7 : w.heap.size + 1 ≤ w6.heap.size := by omega
     go_wp2_with (at_builtin; refine wpList_appM rfl (.tmp 35) (.tmp 39) rfl (w.heap.size + 1) _ l rfl (hR6.alloc _) w6.heap.size 0 1 1 [(n, (k : Int))] rfl rfl (msrc1 _ _ _ _) (by simp; omega) (by simp; omega) ?_; rintro v' w7 hS7 hb7)
     have R7 := RRdr.below (p := w.heap.size) (s := t3) (c := c3) ((show Blk w6 w.heap.size _ from R6).alloc (.cells #[.string ⟨List.toArray n⟩, .int .i64 k] 130)) hb7 (Nat.lt_succ_self _)
     have hb8 := (Below.allocS hb6 (.cells #[.string ⟨List.toArray n⟩, .int .i64 k] 130)).trans (hb7.mono (Nat.le_succ _))
     have hsz8 := hb7.size
     refine ⟨⟨i + 1, by omega, by go_num, ?_, by simp at hsz8; omega, ?_, hb8⟩, by simp [intOf]; omega⟩
     ·rw [hnx]; exact hS7
     ·rw [hnx]; exact R7
    ·obtain rfl : i = many := by omega
     have hd1 : decide ((i : Int) < (i : Int)) = false := by simp
     have HD2 : Hid ((if (mSt s i).2.2 = 0 ∧ chkM (mSt s i).1 = true ∧ encM (mSt s i).1 = s then ((mSt s i).1, (0 : Int)) else ([], 3)) = d) := Lib.hid (by
      rw [← HD.out]; unfold rdecM; rw [HM.out]; simp only [hc0, h7, true_and])
     clear HD HM
     generalize mSt s i = x at *
     obtain ⟨l, t, c⟩ := x
     simp only at hR R hll HD2
     clear hll
     obtain ⟨va, vc, rfl⟩ := hR.form
     go_wp2_with fail
     refine (rmencode_any _ l _ hR.ms).mono ?_
     rintro e w5 ⟨rfl, hb5⟩
     have R5 := (show Blk wq w.heap.size _ from R).keep hb5
     have hR5 := hR.keep hb5
     have hb6 := hb.trans (hb5.mono hb.size)
     obtain ⟨b1, b2, b3⟩ := id R5
     by_cases hc : c = 0
     ·subst hc
      cases hk : chkM l
      ·have hdd : ([], (3 : Int)) = d := by rw [← HD2.out, if_neg]; rw [hk]; simp
       subst hdd
       rw [show encMR l = ([], 50) from by simp [encMR, hk]]
       clear HD2 hk
       go_wp2_with fail
       all_goals (go_ret2; exact ⟨.slice none 0 0, rfl, MRow.nil _ _, hb6⟩)
      ·rw [show encMR l = (encM l, 0) from by simp [encMR, hk]]
       by_cases hes : encM l = s
       ·have hdd : (l, (0 : Int)) = d := by rw [← HD2.out, if_pos ⟨rfl, hk, hes⟩]
        subst hdd
        clear HD2 hk
        rw [hes]
        go_wp2_with fail
        all_goals (go_ret2; exact ⟨_, rfl, hR5.low (Nat.le_succ _), hb6⟩)
       ·have hdd : ([], (3 : Int)) = d := by rw [← HD2.out, if_neg]; exact fun h => hes h.2.2
        subst hdd
        clear HD2 hk
        generalize encM l = f at *
        have he1 : (f == s) = false := by simpa using hes
        have he2 : decide (f = s) = false := by simpa using hes
        have he3 : (f != s) = true := by simpa using hes
        go_wp2_with fail
        all_goals (go_ret2; exact ⟨.slice none 0 0, rfl, MRow.nil _ _, hb6⟩)
     ·have hdd : ([], (3 : Int)) = d := by rw [← HD2.out, if_neg]; exact fun h => hc h.1
      subst hdd
      have hc1 : (c != 0) = true := by simpa using hc
      clear HD2
      go_wp2_with fail
      all_goals (go_ret2; exact ⟨.slice none 0 0, rfl, MRow.nil _ _, hb6⟩)
  ·have hdd : ([], (3 : Int)) = d := by rw [← HD.out, rdecM, if_neg]; exact fun h => h7 h.2.1
   subst hdd
   have hd7 : decide ((7 : Int) < ((mNum s 0).1 : Int)) = true := by simp; omega
   go_wp2_with fail
   all_goals (go_ret2; exact ⟨.slice none 0 0, rfl, MRow.nil _ _, hb2⟩)
 ·have hdd : ([], (3 : Int)) = d := by rw [← HD.out, rdecM, if_neg]; exact fun h => hc0 h.1
  subst hdd
  have hc1 : ((mNum s 0).2.2 != 0) = true := by simpa using hc0
  go_wp2_with fail
  all_goals (go_ret2; exact ⟨.slice none 0 0, rfl, MRow.nil _ _, hb2⟩)
end Go.Proofs.YthgjdaomcpinaaaGreatDoor
namespace Go.Proofs.YthgjdaomcpinaaaGreatDoor
open Go.RowKit Pl
theorem rfflag_any (b : Bool) (w : World) : Calls Tryz.prog 143 #[.bool b] w fun e w' => e = .returned (.string ⟨List.toArray (flagB b)⟩) ∧ w' = w := by
 cases b
 ·go_enter Tryz.func143, Tryz.ntmps143
  go_wp2_with fail
  all_goals (go_ret; exact ⟨rfl, rfl⟩)
 ·go_enter Tryz.func143, Tryz.ntmps143
  go_wp2_with fail
  all_goals (go_ret; exact ⟨rfl, rfl⟩)
theorem rrFlag_any (s : Bs) (c : Int) (p : Nat) (w : World) (hl : s.length < 9223372036854775800) (R : RRdr w p s c) :
  Calls Tryz.prog 112 #[.pointer (some ⟨p, 0, none⟩)] w fun e w' => e = .returned (.bool (mFlag s c).1) ∧ RRdr w' p (mFlag s c).2.1 (mFlag s c).2.2 ∧ Mod [p] w w' := by
 have B : Blk w p #[.string ⟨List.toArray s⟩, .int .i64 c] := R
 obtain ⟨b1, b2, b3⟩ := id B
 by_cases hc : c = 0
 ·subst hc
  cases s with
  | nil =>
   rw [show mFlag [] 0 = (false, [], 20) from rfl]
   go_enter Tryz.func112, Tryz.ntmps112
   go_wp2_with fail
   all_goals go_ret
   exact ⟨rfl, B.set 1 _, (Mod.refl _ _).setCell (.inl (by simp)) _⟩
  | cons k r =>
   have hk := k.toNat_lt
   have hlr : r.length < 9223372036854775800 := by simp at hl; omega
   by_cases hb : 1 < k.toNat
   ·have hb' : (1 : Int) < (k.toNat : Int) := by omega
    rw [show mFlag (k :: r) 0 = (false, k :: r, 3) from by simp [mFlag, hb]]
    go_enter Tryz.func112, Tryz.ntmps112
    go_wp2_with fail
    all_goals go_ret
    all_goals exact ⟨rfl, B.set 1 _, (Mod.refl _ _).setCell (.inl (by simp)) _⟩
   ·have hb' : ¬ (1 : Int) < (k.toNat : Int) := by omega
    rw [show mFlag (k :: r) 0 = (k == 1, r, 0) from by simp [mFlag, hb]]
    have hk1 : ((k.toNat : Int) == 1) = (k == 1) := by
     rw [Bool.eq_iff_iff, beq_iff_eq, beq_iff_eq]
     constructor
     ·intro h; exact UInt8.toNat_inj.1 (by simp; omega)
     ·intro h; subst h; rfl
    go_enter Tryz.func112, Tryz.ntmps112
    go_wp2_with fail
    all_goals go_ret
    all_goals exact ⟨rfl, B.set 0 _, (Mod.refl _ _).setCell (.inl (by simp)) _⟩
 ·rw [show mFlag s c = (false, s, c) from by simp [mFlag, hc]]
  have hc2 : (c != 0) = true := by simpa using hc
  go_enter Tryz.func112, Tryz.ntmps112
  go_wp2_with fail
  go_ret
  exact ⟨rfl, B, Mod.refl _ _⟩
theorem mBytes_rest (s : Bs) (c n : Int) : (mBytes s c n).2.1.length ≤ s.length := by
 unfold mBytes
 repeat' split
 all_goals simp
theorem mFlag_rest (s : Bs) (c : Int) : (mFlag s c).2.1.length ≤ s.length := by
 unfold mFlag
 split
 ·simp
 ·cases s with
  | nil => simp
  | cons b r =>
   simp only
   split <;> simp
def RL (w : World) (p : Nat) (s : Bs) (c : Int) : Prop := RRdr w p s c ∧ s.length ≤ 1000000
theorem RL.mod {w w' : World} {p : Nat} {s : Bs} {c : Int} {l : List Nat} (h : RL w p s c) (hm : Mod l w w') (hn : p ∉ l) : RL w' p s c := ⟨(show Blk w p _ from h.1).mod hm hn, h.2⟩
theorem RL.keep {W w : World} {p : Nat} {s : Bs} {c : Int} (h : RL W p s c) (hb : Below W.heap.size W w) : RL w p s c := ⟨(show Blk W p _ from h.1).keep hb, h.2⟩
theorem RL.other {w : World} {p : Nat} {s : Bs} {c : Int} (h : RL w p s c) {a : Addr} (ha : a.block ≠ p) (v : Value) : RL (w.setCell a v) p s c := ⟨(show Blk w p _ from h.1).other ha v, h.2⟩
theorem RL.alloc {w : World} {p : Nat} {s : Bs} {c : Int} (h : RL w p s c) (o : Obj) : RL (w.alloc o) p s c := ⟨(show Blk w p _ from h.1).alloc o, h.2⟩
theorem RL.drew {w : World} {p : Nat} {s : Bs} {c : Int} (h : RL w p s c) : RL w.drew p s c := ⟨(show Blk w p _ from h.1).drew, h.2⟩
theorem RL.blk {w : World} {p : Nat} {s : Bs} {c : Int} (h : RL w p s c) : Blk w p #[.string ⟨List.toArray s⟩, .int .i64 c] := h.1
theorem rlNum (s : Bs) (c : Int) (p : Nat) (w : World) (R : RL w p s c) :
  Calls Tryz.prog 62 #[.pointer (some ⟨p, 0, none⟩)] w fun e w' => e = .returned (.int .i64 ((mNum s c).1)) ∧ RL w' p (mNum s c).2.1 (mNum s c).2.2 ∧ Mod [p] w w' := by
 refine (rrNum_any s c p w (by have := R.2; omega) R.1).mono ?_
 rintro e w' ⟨h1, h2, h3⟩
 exact ⟨h1, ⟨h2, Nat.le_trans (mNum_rest s c) R.2⟩, h3⟩
theorem rlText (s : Bs) (c most : Int) (p : Nat) (w : World) (R : RL w p s c) :
  Calls Tryz.prog 60 #[.pointer (some ⟨p, 0, none⟩), .int .i64 most] w fun e w' => e = .returned (.string ⟨List.toArray ((mText s c most).1)⟩) ∧ RL w' p (mText s c most).2.1 (mText s c most).2.2 ∧ Mod [p] w w' := by
 refine (rrText_any s c most p w (by have := R.2; omega) R.1).mono ?_
 rintro e w' ⟨h1, h2, h3⟩
 exact ⟨h1, ⟨h2, Nat.le_trans (mText_rest s c most) R.2⟩, h3⟩
theorem rlBytes (s : Bs) (c n : Int) (hn : n ≤ 9223372036854775807) (p : Nat) (w : World) (R : RL w p s c) :
  Calls Tryz.prog 113 #[.pointer (some ⟨p, 0, none⟩), .int .i64 n] w fun e w' => e = .returned (.string ⟨List.toArray ((mBytes s c n).1)⟩) ∧ RL w' p (mBytes s c n).2.1 (mBytes s c n).2.2 ∧ Mod [p] w w' := by
 refine (rrBytes_any s c n p w (by have := R.2; omega) hn R.1).mono ?_
 rintro e w' ⟨h1, h2, h3⟩
 exact ⟨h1, ⟨h2, Nat.le_trans (mBytes_rest s c n) R.2⟩, h3⟩
theorem rlFlag (s : Bs) (c : Int) (p : Nat) (w : World) (R : RL w p s c) :
  Calls Tryz.prog 112 #[.pointer (some ⟨p, 0, none⟩)] w fun e w' => e = .returned (.bool (mFlag s c).1) ∧ RL w' p (mFlag s c).2.1 (mFlag s c).2.2 ∧ Mod [p] w w' := by
 refine (rrFlag_any s c p w (by have := R.2; omega) R.1).mono ?_
 rintro e w' ⟨h1, h2, h3⟩
 exact ⟨h1, ⟨h2, Nat.le_trans (mFlag_rest s c) R.2⟩, h3⟩
end Go.Proofs.YthgjdaomcpinaaaGreatDoor
