/- Walks of the document's answer for layer 2: its reader. -/
import Derived.Test.YtmldonbmjgelnaaDoorRef2
set_option linter.unusedSimpArgs false
set_option linter.unusedVariables false
namespace Go.Proofs.YtmldonbmjgelnaaDoor
open Go.RowKit Pl

theorem rtake_any (s : Bs) (hl : s.length < 9223372036854775800) (w : World) :
    Calls Tryd.prog 108 #[.string ⟨List.toArray (s)⟩] w fun e w' => e = .returned (.tuple #[.int .i64 ((Pl.take s).1), .string ⟨List.toArray ((Pl.take s).2.1)⟩, .int .i64 ((Pl.take s).2.2)]) ∧ ∃ n, w' = w.drewN n := by
  cases s with
  | nil => exact rtake_nil w
  | cons k r => exact rtake_cons k r (by simp at hl; omega) w

theorem tx_len (s : Bs) (most : Int) : (tx s most).1.length ≤ s.length ∧ (tx s most).2.1.length ≤ s.length := by
  unfold tx
  by_cases he : (Pl.take s).2.2 = 0
  · obtain ⟨_, k, hk1, hk2, hk3⟩ := take_le s he
    rw [if_neg (by simpa using he)]
    split
    · simp
    · split
      · simp
      · rw [hk3]; simp; omega
  · rw [if_pos he]; simp

theorem rtext2_any (s : Bs) (most : Int) (hl : s.length < 9223372036854775800) (w : World) :
    Calls Tryd.prog 109 #[.string ⟨List.toArray (s)⟩, .int .i64 (most)] w fun e w' => e = .returned (.tuple #[.string ⟨List.toArray ((tx s most).1)⟩, .string ⟨List.toArray ((tx s most).2.1)⟩, .int .i64 ((tx s most).2.2)]) ∧ ∃ n, w' = w.drewN n := by
  by_cases he : (Pl.take s).2.2 = 0
  · obtain ⟨hn, kk, hk1, hk2, hk3⟩ := take_le s he
    have hlen : (Pl.take s).2.1.length ≤ s.length := by rw [hk3]; simp
    by_cases hm : most < (Pl.take s).1
    · rw [show tx s most = ([], [], 2) from by unfold tx; rw [if_neg (by simpa using he), if_pos hm]]
      clear hk3
      go_enter Tryd.func109, Tryd.ntmps109
      go_wp2_with fail
      refine (rtake_any s hl _).mono ?_
      rintro e w1 ⟨rfl, nq, rfl⟩
      rw [he]
      clear he
      go_wp2_with fail
      go_ret3
      exact ⟨rfl, _, rfl⟩
    · by_cases hr : (Pl.take s).2.1.length < (Pl.take s).1
      · rw [show tx s most = ([], [], 20) from by unfold tx; rw [if_neg (by simpa using he), if_neg hm, if_pos hr]]
        have hr' : ((Pl.take s).2.1.length : Int) < ((Pl.take s).1 : Int) := by omega
        clear hk3
        go_enter Tryd.func109, Tryd.ntmps109
        go_wp2_with fail
        refine (rtake_any s hl _).mono ?_
        rintro e w1 ⟨rfl, nq, rfl⟩
        rw [he]
        clear he
        go_wp2_with fail
        go_ret3
        exact ⟨rfl, _, rfl⟩
      · rw [show tx s most = ((Pl.take s).2.1.take (Pl.take s).1, (Pl.take s).2.1.drop (Pl.take s).1, 0) from by unfold tx; rw [if_neg (by simpa using he), if_neg hm, if_neg hr]]
        have hr' : ((Pl.take s).1 : Int) ≤ ((Pl.take s).2.1.length : Int) := by omega
        clear hk3
        go_enter Tryd.func109, Tryd.ntmps109
        go_wp2_with fail
        refine (rtake_any s hl _).mono ?_
        rintro e w1 ⟨rfl, nq, rfl⟩
        rw [he]
        clear he
        go_wp2_with fail
        go_quiet (fail)
        go_wp2_with fail
        go_ret3
        exact ⟨by simp; exact List.take_of_length_le (by simp), _, World.drewN_drewN _ _ _⟩
  · rw [show tx s most = ([], [], (Pl.take s).2.2) from by unfold tx; rw [if_pos he]]
    have hc2 : ((Pl.take s).2.2 != 0) = true := by simpa using he
    go_enter Tryd.func109, Tryd.ntmps109
    go_wp2_with fail
    refine (rtake_any s hl _).mono ?_
    rintro e w1 ⟨rfl, nq, rfl⟩
    go_wp2_with fail
    go_ret3
    exact ⟨rfl, _, rfl⟩

/-- The document's reader at block p. -/
def RRdr (w : World) (p : Nat) (s : Bs) (c : Int) : Prop := Blk w p #[.string ⟨List.toArray (s)⟩, .int .i64 (c)]

theorem rrNum_any (s : Bs) (c : Int) (p : Nat) (w : World) (hl : s.length < 9223372036854775800) (R : RRdr w p s c) :
    Calls Tryd.prog 76 #[.pointer (some ⟨p, 0, none⟩)] w fun e w' => e = .returned (.int .i64 ((mNum s c).1)) ∧ RRdr w' p (mNum s c).2.1 (mNum s c).2.2 ∧ Mod [p] w w' := by
  have B : Blk w p #[.string ⟨List.toArray (s)⟩, .int .i64 (c)] := R
  obtain ⟨b1, b2, b3⟩ := id B
  by_cases hc : c = 0
  · subst hc
    by_cases he : (Pl.take s).2.2 = 0
    · rw [show mNum s 0 = ((Pl.take s).1, (Pl.take s).2.1, 0) from by simp [mNum, he]]
      go_enter Tryd.func76, Tryd.ntmps76
      go_wp2_with fail
      refine (rtake_any s hl _).mono ?_
      rintro e w1 ⟨rfl, nq, rfl⟩
      rw [he]
      clear he
      go_wp2_with fail
      go_ret
      exact ⟨rfl, ((B.drewN nq).set 1 _).set 0 _, (((Mod.refl _ _).drewN nq).setCell (.inl (by simp)) _).setCell (.inl (by simp)) _⟩
    · rw [show mNum s 0 = (0, s, (Pl.take s).2.2) from by simp [mNum, he]]
      have hc2 : ((Pl.take s).2.2 != 0) = true := by simpa using he
      go_enter Tryd.func76, Tryd.ntmps76
      go_wp2_with fail
      refine (rtake_any s hl _).mono ?_
      rintro e w1 ⟨rfl, nq, rfl⟩
      go_wp2_with fail
      go_ret
      exact ⟨rfl, (B.drewN nq).set 1 _, ((Mod.refl _ _).drewN nq).setCell (.inl (by simp)) _⟩
  · rw [show mNum s c = (0, s, c) from by simp [mNum, hc]]
    have hc2 : (c != 0) = true := by simpa using hc
    go_enter Tryd.func76, Tryd.ntmps76
    go_wp2_with fail
    go_ret
    exact ⟨rfl, B, Mod.refl _ _⟩

theorem rrText_any (s : Bs) (c most : Int) (p : Nat) (w : World) (hl : s.length < 9223372036854775800) (R : RRdr w p s c) :
    Calls Tryd.prog 77 #[.pointer (some ⟨p, 0, none⟩), .int .i64 (most)] w fun e w' => e = .returned (.string ⟨List.toArray ((mText s c most).1)⟩) ∧ RRdr w' p (mText s c most).2.1 (mText s c most).2.2 ∧ Mod [p] w w' := by
  have B : Blk w p #[.string ⟨List.toArray (s)⟩, .int .i64 (c)] := R
  obtain ⟨b1, b2, b3⟩ := id B
  by_cases hc : c = 0
  · subst hc
    by_cases he : (tx s most).2.2 = 0
    · rw [show mText s 0 most = ((tx s most).1, (tx s most).2.1, 0) from by simp [mText, he]]
      go_enter Tryd.func77, Tryd.ntmps77
      go_wp2_with fail
      refine (rtext2_any s most hl _).mono ?_
      rintro e w1 ⟨rfl, nq, rfl⟩
      rw [he]
      clear he
      go_wp2_with fail
      go_ret
      exact ⟨rfl, ((B.drewN nq).set 1 _).set 0 _, (((Mod.refl _ _).drewN nq).setCell (.inl (by simp)) _).setCell (.inl (by simp)) _⟩
    · rw [show mText s 0 most = ([], s, (tx s most).2.2) from by simp [mText, he]]
      have hc2 : ((tx s most).2.2 != 0) = true := by simpa using he
      go_enter Tryd.func77, Tryd.ntmps77
      go_wp2_with fail
      refine (rtext2_any s most hl _).mono ?_
      rintro e w1 ⟨rfl, nq, rfl⟩
      go_wp2_with fail
      go_ret
      exact ⟨rfl, (B.drewN nq).set 1 _, ((Mod.refl _ _).drewN nq).setCell (.inl (by simp)) _⟩
  · rw [show mText s c most = ([], s, c) from by simp [mText, hc]]
    have hc2 : (c != 0) = true := by simpa using hc
    go_enter Tryd.func77, Tryd.ntmps77
    go_wp2_with fail
    go_ret
    exact ⟨rfl, B, Mod.refl _ _⟩


theorem rrEnd_any (s : Bs) (c : Int) (p : Nat) (w : World) (hl : s.length < 9223372036854775800) (R : RRdr w p s c) :
    Calls Tryd.prog 89 #[.pointer (some ⟨p, 0, none⟩)] w fun e w' => e = .returned (.int .i64 (mEnd s c)) ∧ Mod [p] w w' := by
  have B : Blk w p #[.string ⟨List.toArray (s)⟩, .int .i64 (c)] := R
  obtain ⟨b1, b2, b3⟩ := id B
  by_cases hc : c = 0
  · subst hc
    cases s with
    | nil =>
      rw [show mEnd [] 0 = 0 from by simp [mEnd]]
      go_enter Tryd.func89, Tryd.ntmps89
      go_wp2_with fail
      all_goals go_ret
      all_goals exact ⟨rfl, by (repeat (first | exact Mod.refl _ _ | assumption | apply Mod.drew | apply Mod.drewN | apply Mod.alloc | (refine Mod.setCell ?_ (by simp <;> omega) _) | (refine Mod.trans ?_ (by assumption))))⟩
    | cons k r =>
      rw [show mEnd (k :: r) 0 = 3 from by simp [mEnd]]
      go_enter Tryd.func89, Tryd.ntmps89
      go_wp2_with fail
      all_goals go_ret
      all_goals exact ⟨rfl, by (repeat (first | exact Mod.refl _ _ | assumption | apply Mod.drew | apply Mod.drewN | apply Mod.alloc | (refine Mod.setCell ?_ (by simp <;> omega) _) | (refine Mod.trans ?_ (by assumption))))⟩
  · rw [show mEnd s c = c from by simp [mEnd, hc]]
    have hc2 : (c == 0) = false := by simpa using hc
    go_enter Tryd.func89, Tryd.ntmps89
    go_wp2_with fail
    all_goals go_ret
    all_goals exact ⟨rfl, by (repeat (first | exact Mod.refl _ _ | assumption | apply Mod.drew | apply Mod.drewN | apply Mod.alloc | (refine Mod.setCell ?_ (by simp <;> omega) _) | (refine Mod.trans ?_ (by assumption))))⟩

end Go.Proofs.YtmldonbmjgelnaaDoor
