/- The set of bytes: the program's. -/
import Derived.Test.YtmldonbmjgelnaaDoorMRow
import Derived.Test.YtmldonbmjgelnaaDoorMEnc
import Derived.Test.YtmldonbmjgelnaaDoorReader
set_option linter.unusedSimpArgs false
set_option linter.unusedVariables false
namespace Go.Proofs.YtmldonbmjgelnaaDoor
open Go.RowKit Pl

namespace Pl
/-- What is read behind the number: members, what is left, the code; behind i rounds. -/
def mSt (s : Bs) : Nat → List (Bs × Int) × Bs × Int
  | 0 => ([], (mNum s 0).2.1, (mNum s 0).2.2)
  | i + 1 => ((mSt s i).1 ++ [((mText (mSt s i).2.1 (mSt s i).2.2 6).1, ((mNum (mText (mSt s i).2.1 (mSt s i).2.2 6).2.1 (mText (mSt s i).2.1 (mSt s i).2.2 6).2.2).1 : Int))],
      (mNum (mText (mSt s i).2.1 (mSt s i).2.2 6).2.1 (mText (mSt s i).2.1 (mSt s i).2.2 6).2.2).2.1,
      (mNum (mText (mSt s i).2.1 (mSt s i).2.2 6).2.1 (mText (mSt s i).2.1 (mSt s i).2.2 6).2.2).2.2)
def stepM (x : List (Bs × Int) × Bs × Int) : List (Bs × Int) × Bs × Int :=
  (x.1 ++ [((mText x.2.1 x.2.2 6).1, ((mNum (mText x.2.1 x.2.2 6).2.1 (mText x.2.1 x.2.2 6).2.2).1 : Int))], (mNum (mText x.2.1 x.2.2 6).2.1 (mText x.2.1 x.2.2 6).2.2).2.1, (mNum (mText x.2.1 x.2.2 6).2.1 (mText x.2.1 x.2.2 6).2.2).2.2)
theorem mSt_succ (s : Bs) (i : Nat) : mSt s (i + 1) = stepM (mSt s i) := rfl
theorem mSt_len (s : Bs) : ∀ i, (mSt s i).1.length = i
  | 0 => rfl
  | i + 1 => by simp [mSt, mSt_len s i]
theorem mSt_bad (s : Bs) (i : Nat) (h : (mSt s i).2.2 ≠ 0) : ∀ j, (mSt s (i + j)).2.2 ≠ 0
  | 0 => h
  | j + 1 => by
    have h2 := mSt_bad s i h j
    rw [← Nat.add_assoc]
    simp only [mSt, mText, mNum, if_pos h2]
    exact h2
/-- The set of bytes. -/
def decM (s : Bs) : List (Bs × Int) × Int :=
  if mEnd (mSt s (mNum s 0).1).2.1 (mSt s (mNum s 0).1).2.2 = 0 ∧ chkM (mSt s (mNum s 0).1).1 = true then ((mSt s (mNum s 0).1).1, 0) else ([], 3)
theorem mEnd_bad (s : Bs) (c : Int) (h : c ≠ 0) : mEnd s c ≠ 0 := by
  unfold mEnd
  rw [if_neg (fun e => h e.1)]
  exact h
/-- Where the loop ends otherwise, nothing is told. -/
theorem decM_not (s : Bs) (i : Nat) (hi : i ≤ 8) (hn : i < (mNum s 0).1) (h : i = 8 ∨ (mSt s i).2.2 ≠ 0) : decM s = ([], 3) := by
  unfold decM
  rw [if_neg]
  rintro ⟨h1, h2⟩
  rcases h with rfl | h
  · simp only [chkM, Bool.and_eq_true, decide_eq_true_eq] at h2
    have := h2.1.2
    rw [mSt_len] at this
    omega
  · obtain ⟨j, hj⟩ : ∃ j, (mNum s 0).1 = i + j := ⟨(mNum s 0).1 - i, by omega⟩
    rw [hj] at h1
    exact mEnd_bad _ _ (mSt_bad s i h j) h1
end Pl

theorem MRow.mod {w w' : World} {b p : Nat} {v : Value} {l : List (Bs × Int)} (h : MRow w b v l) (hm : Mod [p] w w') (hp : p < b) : MRow w' b v l := by
  refine h.kept (fun k hk => hm.block k ?_ ?_)
  · rcases h.cells with ⟨rfl, _⟩ | ⟨g, cap, rfl, _, hg, _⟩
    · cases hk
    · cases hk; exact hg
  · have := h.own k hk
    simp; omega
theorem Rdr.below {B : Nat} {W w : World} {p : Nat} {s : Bs} {c : Int} (h : Rdr W p s c) (hb : Below B W w) (hp : p < B) : Rdr w p s c := by
  obtain ⟨l, a, h1, h2, h3, K⟩ := h
  exact ⟨l, a, h1, h2, h3, K.of_block (hb.block p hp) hb.size⟩
theorem MRow.low {w : World} {b c : Nat} {v : Value} {l : List (Bs × Int)} (h : MRow w b v l) (hc : c ≤ b) : MRow w c v l := by
  refine ⟨h.1, h.2.imp id ?_⟩
  rintro ⟨g, cap, cur, hv, h1, h2⟩
  exact ⟨g, cap, cur, hv, Nat.le_trans hc h1, h2⟩
theorem MRow.drewN {w : World} {b : Nat} {v : Value} {l : List (Bs × Int)} (h : MRow w b v l) (n : Nat) : MRow (w.drewN n) b v l := h
theorem MRow.alloc {w : World} {b : Nat} {v : Value} {l : List (Bs × Int)} (h : MRow w b v l) (o : Obj) : MRow (w.alloc o) b v l := by
  refine h.kept (fun k hk => Below.heap_alloc _ _ _ ?_)
  rcases h.cells with ⟨rfl, rfl⟩ | ⟨g, cap, rfl, _, hlt, _⟩
  · cases hk
  · cases hk; exact hlt
set_option maxRecDepth 100000 in
theorem rcode_any (s : Bs) (c : Int) (p : Nat) (w : World) (R : Rdr w p s c) :
    Calls Tryd.prog 74 #[.pointer (some ⟨p, 0, none⟩)] w fun e w' => e = .returned (.int .i64 (c)) ∧ ∃ n, w' = w.drewN n := by
  obtain ⟨l, a, h1, h2, rfl, B⟩ := id R
  obtain ⟨b1, b2, b3⟩ := id B
  go_enter Tryd.func74, Tryd.ntmps74
  go_wp2_with fail
  all_goals (go_ret; exact ⟨rfl, 0, rfl⟩)

set_option maxRecDepth 100000 in
set_option maxHeartbeats 400000 in
theorem mdecode_any (s : Bs) (hs : s.length ≤ 9223372036854775807) (w : World) :
    Calls Tryd.prog 30 #[.string ⟨List.toArray (s)⟩] w fun e w' => ∃ v, e = .returned (.tuple #[v, .int .i64 ((decM s).2)]) ∧ MRow w' w.heap.size v (decM s).1 ∧ Below w.heap.size w w' := by
  generalize hd : decM s = d
  have HD := Lib.hid hd
  clear hd
  go_enter Tryd.func30, Tryd.ntmps30
  go_wp2_with fail
  refine (readNew s _).mono ?_
  rintro e w1 ⟨rfl, rfl⟩
  have R0 : Rdr (w.alloc (.cells #[.string ⟨List.toArray (s)⟩, .int .i64 (0), .int .i64 (0)] 94)) w.heap.size s 0 := ⟨s, 0, hs, by omega, rfl, Blk.new w _ _⟩
  have hb0 : Below w.heap.size w (w.alloc (.cells #[.string ⟨List.toArray (s)⟩, .int .i64 (0), .int .i64 (0)] 94)) := Below.allocS (Below.refl _ _) _
  go_wp2_with fail
  refine (rnum_any s 0 _ _ R0).mono ?_
  rintro e w2 ⟨rfl, R2, m2⟩
  have hb2 := Below.mod hb0 m2 (by simp) (by simp)
  clear R0 hb0 m2
  have hmany : (mNum s 0).1 < 9223372036854775808 := by
    unfold mNum
    split
    · simp
    · split
      · simp
      · rename_i h; exact (take_le s (by simpa using h)).1
  generalize hm : (mNum s 0).1 = many at *
  have HM := Lib.hid hm
  clear hm
  have R3 : Rdr w2 w.heap.size (mSt s 0).2.1 (mSt s 0).2.2 := R2
  clear R2
  go_wp2_with fail
  go_loopw [5, 7] (fun s5 s7 wr => ∃ i : Nat, i ≤ 8 ∧ i ≤ many ∧ s7 = .int .i64 i ∧ MRow wr (w.heap.size + 1) s5 (mSt s i).1 ∧ w.heap.size + 1 ≤ wr.heap.size ∧ Rdr wr w.heap.size (mSt s i).2.1 (mSt s i).2.2 ∧ Below w.heap.size w wr) (fun _ s7 _ => 8 - (intOf s7).toNat)
  have hs2 : w.heap.size + 1 ≤ w2.heap.size := Nat.succ_le_of_lt R3.lt
  case atStart => exact ⟨0, by omega, by omega, rfl, MRow.nil _ _, hs2, R3, hb2⟩
  case round =>
    obtain ⟨i, hi, him, rfl, hR, hsz, R, hb⟩ := hrel
    obtain ⟨wq, h⟩ := Below.nm hb
    subst h
    have hll := mSt_len s i
    have hlow := hR.low (Nat.le_succ _)
    by_cases hlt : i < many
    · have HN := Lib.hid (fun h => decM_not s i hi (by rw [HM.out]; exact hlt) h)
      rw [HD.out] at HN
      by_cases h8 : i < 8
      · have hd1 : decide ((i : Int) < (many : Int)) = true := by simp; omega
        have hd2 : decide ((i : Int) ≤ 7) = true := by simp; omega
        have hnx := mSt_succ s i
        unfold stepM at hnx
        generalize mSt s i = x at *
        obtain ⟨l, t, c⟩ := x
        simp only at hR R hll hnx HN hlow
        go_wp2_with fail
        refine (rcode_any _ _ _ _ R).mono ?_
        rintro e w3 ⟨rfl, q, rfl⟩
        by_cases hc : c = 0
        · subst hc
          have R4 : Rdr (wq.drewN q) w.heap.size t 0 := R.drewN q
          go_wp2_with fail
          refine (rtext_any t 0 6 _ _ R4).mono ?_
          rintro e w5 ⟨rfl, R5, m5⟩
          have hR5 := (hR.drewN q).mod m5 (Nat.lt_succ_self _)
          have hb5 := Below.mod (below_drewN hb q) m5 (by simpa using hb.size) (by simp)
          have hsz5 := m5.size
          clear R4 R m5
          generalize mText t 0 6 = y at *
          obtain ⟨n, t2, c2⟩ := y
          simp only at R5 hnx
          go_wp2_with fail
          refine (rnum_any t2 c2 _ _ R5).mono ?_
          rintro e w6 ⟨rfl, R6, m6⟩
          have hR6 := hR5.mod m6 (Nat.lt_succ_self _)
          have hb6 := Below.mod hb5 m6 hb5.size (by simp)
          have hsz6 := m6.size
          clear R5 m6 hR5 hb5
          generalize mNum t2 c2 = z at *
          obtain ⟨k, t3, c3⟩ := z
          simp only at R6 hnx
          have hsz7 : w.heap.size + 1 ≤ w6.heap.size := by simp at hsz5; omega
          go_wp2_with (at_builtin; refine wpList_appM rfl (.tmp 26) (.tmp 32) rfl (w.heap.size + 1) _ l rfl (hR6.alloc _) w6.heap.size 0 1 1 [(n, (k : Int))] rfl rfl (msrc1 _ _ _ _) (by simp; omega) (by simp; omega) ?_; rintro v' w7 hS7 hb7)
          have R7 := (R6.alloc (.cells #[.string ⟨List.toArray (n)⟩, .int .i64 (k)] 63)).below hb7 (Nat.lt_succ_self _)
          have hb8 := (Below.allocS hb6 (.cells #[.string ⟨List.toArray (n)⟩, .int .i64 (k)] 63)).trans (hb7.mono (Nat.le_succ _))
          have hsz8 := hb7.size
          refine ⟨⟨i + 1, by omega, by omega, by go_num, ?_, by simp at hsz8; omega, ?_, hb8⟩, by simp [intOf]; omega⟩
          · rw [hnx]; exact hS7
          · rw [hnx]; exact R7
        · have hdd := HN.out (.inr hc)
          subst hdd
          have R4 : Rdr (wq.drewN q) w.heap.size t c := R.drewN q
          have hc2 : (c == 0) = false := by simpa using hc
          go_wp2_with fail
          refine (rend_any t c _ _ R4).mono ?_
          rintro e w5 ⟨rfl, m5⟩
          have hb5 := Below.mod (below_drewN hb q) m5 (by simpa using hb.size) (by simp)
          have hme : (mEnd t c != 0) = true := by simpa using mEnd_bad t c hc
          go_wp2_with fail
          all_goals (go_ret2; exact ⟨.slice none 0 0, rfl, MRow.nil _ _, hb5⟩)
      · have h88 : i = 8 := by omega
        have hdd := HN.out (.inl h88)
        subst hdd
        have hd1 : decide ((i : Int) < (many : Int)) = true := by simp; omega
        have hd2 : decide ((i : Int) ≤ 7) = false := by simp; omega
        clear HN
        generalize mSt s i = x at *
        obtain ⟨l, t, c⟩ := x
        simp only at hR R hll hlow
        obtain ⟨va, vc, rfl⟩ := hR.form
        have hlm : ((l.length : Int) != (many : Int)) = true := by simp; omega
        clear h88
        go_wp2_with fail
        refine (rend_any t c _ _ R).mono ?_
        rintro e w5 ⟨rfl, m5⟩
        have hb5 := Below.mod hb m5 hb.size (by simp)
        cases hme : (mEnd t c != 0)
        · go_wp2_with fail
          all_goals (go_ret2; exact ⟨.slice none 0 0, rfl, MRow.nil _ _, hb5⟩)
        · go_wp2_with fail
          all_goals (go_ret2; exact ⟨.slice none 0 0, rfl, MRow.nil _ _, hb5⟩)
    · obtain rfl : i = many := by omega
      have hd1 : decide ((i : Int) < (i : Int)) = false := by simp
      have HD2 : Hid ((if mEnd (mSt s i).2.1 (mSt s i).2.2 = 0 ∧ chkM (mSt s i).1 = true then ((mSt s i).1, (0 : Int)) else ([], 3)) = d) := Lib.hid (by
        rw [← HD.out]; unfold decM; rw [HM.out])
      clear HD HM
      generalize mSt s i = x at *
      obtain ⟨l, t, c⟩ := x
      simp only at hR R hll hlow HD2
      obtain ⟨va, vc, rfl⟩ := hR.form
      have hlm : ((l.length : Int) != (i : Int)) = false := by simp; omega
      clear hll
      go_wp2_with fail
      refine (rend_any t c _ _ R).mono ?_
      rintro e w5 ⟨rfl, m5⟩
      have hb5 := Below.mod hb m5 hb.size (by simp)
      have hR5 := hR.mod m5 (Nat.lt_succ_self _)
      by_cases hme : mEnd t c = 0
      · rw [hme]
        have hchk := mcheck_any _ l _ hR5.ms
        cases hc : chkM l
        · rw [hc] at hchk
          have hdd : ([], (3 : Int)) = d := by rw [← HD2.out, if_neg]; rw [hc]; simp
          subst hdd
          have HC := Lib.hid hchk
          clear hchk HD2 hc hme
          go_wp2_with fail
          refine HC.out.mono ?_
          rintro e w6 ⟨rfl, hb6⟩
          unfold setI
          go_wp2_with fail
          all_goals (go_ret2; exact ⟨.slice none 0 0, rfl, MRow.nil _ _, hb5.trans (hb6.mono hb5.size)⟩)
        · rw [hc] at hchk
          have hdd : (l, (0 : Int)) = d := by rw [← HD2.out, if_pos ⟨hme, hc⟩]
          subst hdd
          have HC := Lib.hid hchk
          clear hchk HD2 hc hme
          go_wp2_with fail
          refine HC.out.mono ?_
          rintro e w6 ⟨rfl, hb6⟩
          unfold setI
          go_wp2_with fail
          all_goals (go_ret2; exact ⟨_, rfl, (hR5.keep hb6).low (Nat.le_succ _), hb5.trans (hb6.mono hb5.size)⟩)
      · have hdd : ([], (3 : Int)) = d := by rw [← HD2.out, if_neg]; exact fun h => hme h.1
        subst hdd
        have hme2 : (mEnd t c != 0) = true := by simpa using hme
        clear HD2
        go_wp2_with fail
        all_goals (go_ret2; exact ⟨.slice none 0 0, rfl, MRow.nil _ _, hb5⟩)

end Go.Proofs.YtmldonbmjgelnaaDoor
