/- The set of bytes: the document's. -/
import Derived.Test.YtmldonbmjgelnaaDoorMRdecP
import Derived.Test.YtmldonbmjgelnaaDoorMRef
import Derived.Test.YtmldonbmjgelnaaDoorRef2R
set_option linter.unusedSimpArgs false
set_option linter.unusedVariables false
namespace Go.Proofs.YtmldonbmjgelnaaDoor
open Go.RowKit Pl

theorem mNum_rest (s : Bs) (c : Int) : (mNum s c).2.1.length ≤ s.length := by
  unfold mNum
  split
  · simp
  · split
    · simp
    · rename_i h
      obtain ⟨_, k, _, _, hk⟩ := take_le s (by simpa using h)
      show (Pl.take s).2.1.length ≤ s.length
      rw [hk]; simp
theorem mText_rest (s : Bs) (c most : Int) : (mText s c most).2.1.length ≤ s.length := by
  unfold mText
  split
  · simp
  · split
    · simp
    · exact (tx_len s most).2
theorem mSt_rest (s : Bs) : ∀ i, (mSt s i).2.1.length ≤ s.length
  | 0 => mNum_rest s 0
  | i + 1 => by
    rw [mSt_succ]
    exact Nat.le_trans (mNum_rest _ _) (Nat.le_trans (mText_rest _ _ _) (mSt_rest s i))
theorem RRdr.below {B : Nat} {W w : World} {p : Nat} {s : Bs} {c : Int} (h : RRdr W p s c) (hb : Below B W w) (hp : p < B) : RRdr w p s c :=
  (show Blk W p _ from h).of_block (hb.block p hp) hb.size

set_option maxRecDepth 100000 in
set_option maxHeartbeats 400000 in
theorem rmdecode_any (s : Bs) (hs : s.length ≤ 1000) (w : World) :
    Calls Tryd.prog 31 #[.string ⟨List.toArray (s)⟩] w fun e w' => ∃ v, e = .returned (.tuple #[v, .int .i64 ((decM s).2)]) ∧ MRow w' w.heap.size v (decM s).1 ∧ Below w.heap.size w w' := by
  rw [← rdecM_dec]
  generalize hd : rdecM s = d
  have HD := Lib.hid hd
  clear hd
  have R0 : RRdr (w.alloc (.cells #[.string ⟨List.toArray (s)⟩, .int .i64 (0)] 82)) w.heap.size s 0 := Blk.new w _ _
  have hb0 : Below w.heap.size w (w.alloc (.cells #[.string ⟨List.toArray (s)⟩, .int .i64 (0)] 82)) := Below.allocS (Below.refl _ _) _
  go_enter Tryd.func31, Tryd.ntmps31
  go_wp2_with fail
  refine (rrNum_any s 0 _ _ (by omega) R0).mono ?_
  rintro e w2 ⟨rfl, R2, m2⟩
  have hb2 := Below.mod hb0 m2 (by simp) (by simp)
  clear R0 hb0 m2
  have R3 : RRdr w2 w.heap.size (mSt s 0).2.1 (mSt s 0).2.2 := R2
  obtain ⟨b1, b2, b3⟩ := id (show Blk w2 w.heap.size _ from R2)
  by_cases hc0 : (mNum s 0).2.2 = 0
  · rw [hc0] at b1
    by_cases h7 : (mNum s 0).1 ≤ 7
    · have hd7 : decide ((7 : Int) < ((mNum s 0).1 : Int)) = false := by simp; omega
      generalize hm : (mNum s 0).1 = many at *
      have HM := Lib.hid hm
      clear hm
      go_wp2_with fail
      clear b1 b2 b3 R2
      have hs2 : w.heap.size + 1 ≤ w2.heap.size := Nat.succ_le_of_lt (show Blk w2 w.heap.size _ from R3).lt
      go_loopw [6, 7] (fun s6 s7 wr => ∃ i : Nat, i ≤ many ∧ s7 = .int .i64 i ∧ MRow wr (w.heap.size + 1) s6 (mSt s i).1 ∧ w.heap.size + 1 ≤ wr.heap.size ∧ RRdr wr w.heap.size (mSt s i).2.1 (mSt s i).2.2 ∧ Below w.heap.size w wr) (fun _ s7 _ => many - (intOf s7).toNat)
      case atStart => exact ⟨0, by omega, rfl, MRow.nil _ _, hs2, R3, hb2⟩
      case round =>
        obtain ⟨i, hi, rfl, hR, hsz, R, hb⟩ := hrel
        obtain ⟨wq, h⟩ := Below.nm hb
        subst h
        have hll := mSt_len s i
        have hrest := mSt_rest s i
        by_cases hlt : i < many
        · have hd1 : decide ((i : Int) < (many : Int)) = true := by simp; omega
          have hnx := mSt_succ s i
          unfold stepM at hnx
          generalize mSt s i = x at *
          obtain ⟨l, t, c⟩ := x
          simp only at hR R hll hnx hrest
          go_wp2_with fail
          refine (rrText_any t c 6 _ _ (by omega) R).mono ?_
          rintro e w5 ⟨rfl, R5, m5⟩
          have hR5 := hR.mod m5 (Nat.lt_succ_self _)
          have hb5 := Below.mod hb m5 hb.size (by simp)
          have hsz5 := m5.size
          have hrest2 := Nat.le_trans (mText_rest t c 6) hrest
          clear R m5
          generalize mText t c 6 = y at *
          obtain ⟨n, t2, c2⟩ := y
          simp only at R5 hnx hrest2
          go_wp2_with fail
          refine (rrNum_any t2 c2 _ _ (by omega) R5).mono ?_
          rintro e w6 ⟨rfl, R6, m6⟩
          have hR6 := hR5.mod m6 (Nat.lt_succ_self _)
          have hb6 := Below.mod hb5 m6 hb5.size (by simp)
          have hsz6 := m6.size
          clear R5 m6 hR5 hb5
          generalize mNum t2 c2 = z at *
          obtain ⟨k, t3, c3⟩ := z
          simp only at R6 hnx
          have hsz7 : w.heap.size + 1 ≤ w6.heap.size := by omega
          go_wp2_with (at_builtin; refine wpList_appM rfl (.tmp 35) (.tmp 39) rfl (w.heap.size + 1) _ l rfl (hR6.alloc _) w6.heap.size 0 1 1 [(n, (k : Int))] rfl rfl (msrc1 _ _ _ _) (by simp; omega) (by simp; omega) ?_; rintro v' w7 hS7 hb7)
          have R7 := RRdr.below (p := w.heap.size) (s := t3) (c := c3) ((show Blk w6 w.heap.size _ from R6).alloc (.cells #[.string ⟨List.toArray (n)⟩, .int .i64 (k)] 63)) hb7 (Nat.lt_succ_self _)
          have hb8 := (Below.allocS hb6 (.cells #[.string ⟨List.toArray (n)⟩, .int .i64 (k)] 63)).trans (hb7.mono (Nat.le_succ _))
          have hsz8 := hb7.size
          refine ⟨⟨i + 1, by omega, by go_num, ?_, by simp at hsz8; omega, ?_, hb8⟩, by simp [intOf]; omega⟩
          · rw [hnx]; exact hS7
          · rw [hnx]; exact R7
        · obtain rfl : i = many := by omega
          have hd1 : decide ((i : Int) < (i : Int)) = false := by simp
          have HD2 : Hid ((if (mSt s i).2.2 = 0 ∧ chkM (mSt s i).1 = true ∧ encM (mSt s i).1 = s then ((mSt s i).1, (0 : Int)) else ([], 3)) = d) := Lib.hid (by
            rw [← HD.out]; unfold rdecM; rw [HM.out]; simp only [hc0, h7, true_and])
          clear HD HM
          generalize mSt s i = x at *
          obtain ⟨l, t, c⟩ := x
          simp only at hR R hll HD2
          clear hll
          obtain ⟨va, vc, rfl⟩ := hR.form
          go_wp2_with fail
          refine (rmencode_any _ l _ hR.ms).mono ?_
          rintro e w5 ⟨rfl, hb5⟩
          have R5 := (show Blk wq w.heap.size _ from R).keep hb5
          have hR5 := hR.keep hb5
          have hb6 := hb.trans (hb5.mono hb.size)
          obtain ⟨b1, b2, b3⟩ := id R5
          by_cases hc : c = 0
          · subst hc
            cases hk : chkM l
            · have hdd : ([], (3 : Int)) = d := by rw [← HD2.out, if_neg]; rw [hk]; simp
              subst hdd
              rw [show encMR l = ([], 50) from by simp [encMR, hk]]
              clear HD2 hk
              go_wp2_with fail
              all_goals (go_ret2; exact ⟨.slice none 0 0, rfl, MRow.nil _ _, hb6⟩)
            · rw [show encMR l = (encM l, 0) from by simp [encMR, hk]]
              by_cases hes : encM l = s
              · have hdd : (l, (0 : Int)) = d := by rw [← HD2.out, if_pos ⟨rfl, hk, hes⟩]
                subst hdd
                clear HD2 hk
                rw [hes]
                go_wp2_with fail
                all_goals (go_ret2; exact ⟨_, rfl, hR5.low (Nat.le_succ _), hb6⟩)
              · have hdd : ([], (3 : Int)) = d := by rw [← HD2.out, if_neg]; exact fun h => hes h.2.2
                subst hdd
                clear HD2 hk
                generalize encM l = f at *
                have he1 : (f == s) = false := by simpa using hes
                have he2 : decide (f = s) = false := by simpa using hes
                have he3 : (f != s) = true := by simpa using hes
                go_wp2_with fail
                all_goals (go_ret2; exact ⟨.slice none 0 0, rfl, MRow.nil _ _, hb6⟩)
          · have hdd : ([], (3 : Int)) = d := by rw [← HD2.out, if_neg]; exact fun h => hc h.1
            subst hdd
            have hc1 : (c != 0) = true := by simpa using hc
            clear HD2
            go_wp2_with fail
            all_goals (go_ret2; exact ⟨.slice none 0 0, rfl, MRow.nil _ _, hb6⟩)
    · have hdd : ([], (3 : Int)) = d := by rw [← HD.out, rdecM, if_neg]; exact fun h => h7 h.2.1
      subst hdd
      have hd7 : decide ((7 : Int) < ((mNum s 0).1 : Int)) = true := by simp; omega
      go_wp2_with fail
      all_goals (go_ret2; exact ⟨.slice none 0 0, rfl, MRow.nil _ _, hb2⟩)
  · have hdd : ([], (3 : Int)) = d := by rw [← HD.out, rdecM, if_neg]; exact fun h => hc0 h.1
    subst hdd
    have hc1 : ((mNum s 0).2.2 != 0) = true := by simpa using hc0
    go_wp2_with fail
    all_goals (go_ret2; exact ⟨.slice none 0 0, rfl, MRow.nil _ _, hb2⟩)

end Go.Proofs.YtmldonbmjgelnaaDoor
