/- Walks of layer 2: the reader's methods, by what is left and the code. -/
import Derived.Test.YtmldonbmjgelnaaDoorCode
set_option linter.unusedSimpArgs false
set_option linter.unusedVariables false
namespace Go.Proofs.YtmldonbmjgelnaaDoor
open Go.RowKit Pl

/-- A reader at block p: what is left, and the code. -/
def Rdr (w : World) (p : Nat) (s : Bs) (c : Int) : Prop :=
  ∃ (l : Bs) (at_ : Nat), l.length ≤ 9223372036854775807 ∧ at_ ≤ l.length ∧ l.drop at_ = s ∧ Blk w p #[.string ⟨List.toArray (l)⟩, .int .i64 (at_), .int .i64 (c)]
theorem Rdr.mod {w w' : World} {p : Nat} {s : Bs} {c : Int} (h : Rdr w p s c) {l : List Nat} (hm : Mod l w w') (hb : p ∉ l) : Rdr w' p s c := by
  obtain ⟨l, a, h1, h2, h3, B⟩ := h
  exact ⟨l, a, h1, h2, h3, B.mod hm hb⟩
theorem Rdr.len {w : World} {p : Nat} {s : Bs} {c : Int} (h : Rdr w p s c) : s.length ≤ 9223372036854775807 := by
  obtain ⟨l, a, h1, h2, rfl, _⟩ := h
  simp; omega
theorem Rdr.lt {w : World} {p : Nat} {s : Bs} {c : Int} (h : Rdr w p s c) : p < w.heap.size := by
  obtain ⟨l, a, _, _, _, B⟩ := h
  exact B.lt
theorem Rdr.new {w : World} {s : Bs} {t : TypeId} (h : s.length ≤ 9223372036854775807) : Rdr (w.alloc (.cells #[.string ⟨List.toArray (s)⟩, .int .i64 (0), .int .i64 (0)] t)) w.heap.size s 0 :=
  ⟨s, 0, h, by omega, rfl, Blk.new _ _ _⟩
theorem Rdr.alloc {w : World} {p : Nat} {s : Bs} {c : Int} (h : Rdr w p s c) (o : Obj) : Rdr (w.alloc o) p s c := by
  obtain ⟨l, a, h1, h2, h3, B⟩ := h
  exact ⟨l, a, h1, h2, h3, B.alloc o⟩
theorem Rdr.other {w : World} {p : Nat} {s : Bs} {c : Int} (h : Rdr w p s c) {x : Addr} (hx : x.block ≠ p) (v : Value) : Rdr (w.setCell x v) p s c := by
  obtain ⟨l, a, h1, h2, h3, B⟩ := h
  exact ⟨l, a, h1, h2, h3, B.other hx v⟩
theorem Rdr.drew {w : World} {p : Nat} {s : Bs} {c : Int} (h : Rdr w p s c) : Rdr w.drew p s c := by
  obtain ⟨l, a, h1, h2, h3, B⟩ := h
  exact ⟨l, a, h1, h2, h3, B.drew⟩
theorem Rdr.drewN {w : World} {p : Nat} {s : Bs} {c : Int} (h : Rdr w p s c) (n : Nat) : Rdr (w.drewN n) p s c := by
  obtain ⟨l, a, h1, h2, h3, B⟩ := h
  exact ⟨l, a, h1, h2, h3, B.drewN n⟩

theorem bytes_any (s : Bs) (c n : Int) (p : Nat) (w : World) (hn : n ≤ 9223372036854775807) (R : Rdr w p s c) :
    Calls Tryd.prog 58 #[.pointer (some ⟨p, 0, none⟩), .int .i64 (n)] w fun e w' => e = .returned (.string ⟨List.toArray ((mBytes s c n).1)⟩) ∧ Rdr w' p (mBytes s c n).2.1 (mBytes s c n).2.2 ∧ Mod [p] w w' := by
  obtain ⟨l, a, h1, h2, rfl, B⟩ := id R
  obtain ⟨b1, b2, b3⟩ := id B
  by_cases hc : c = 0
  · subst hc
    by_cases hn0 : n < 0
    · rw [show mBytes (l.drop a) 0 n = ([], l.drop a, 1) from by simp [mBytes, hn0]]
      go_enter Tryd.func58, Tryd.ntmps58
      go_wp2_with fail
      refine (refused_yes l a a 1 p _ B).mono ?_
      rintro e w1 ⟨rfl, B1, m1⟩
      clear b1 b2 b3
      go_wp2_with fail
      go_ret
      exact ⟨rfl, ⟨l, a, h1, h2, rfl, B1⟩, m1⟩
    · obtain ⟨n, rfl⟩ := Int.eq_ofNat_of_zero_le (show 0 ≤ n by omega)
      by_cases hl : l.length < a + n
      · rw [show mBytes (l.drop a) 0 n = ([], l.drop a, 20) from by unfold mBytes; rw [if_neg (by simp), if_neg (by omega), if_pos (by simp; omega)]]
        go_enter Tryd.func58, Tryd.ntmps58
        go_wp2_with fail
        refine (take_no l a n 0 p _ h1 h2 hl B).mono ?_
        rintro e w1 ⟨rfl, B1, m1⟩
        clear b1 b2 b3
        obtain ⟨b1, b2, b3⟩ := id B1
        go_wp2_with fail
        refine (refused_yes l a a 20 p _ B1).mono ?_
        rintro e w2 ⟨rfl, B2, m2⟩
        clear b1 b2 b3
        go_wp2_with fail
        go_ret
        exact ⟨rfl, ⟨l, a, h1, h2, rfl, B2⟩, m1.trans m2⟩
      · rw [show mBytes (l.drop a) 0 n = ((l.drop a).take n, l.drop (a + n), 0) from by
          have : ¬ ((l.drop a).length : Int) < n := by simp; omega
          simp only [mBytes, this, ne_eq, not_true_eq_false, if_false]
          rw [if_neg (by omega)]; simp]
        go_enter Tryd.func58, Tryd.ntmps58
        go_wp2_with fail
        refine (take_yes l a n 0 p _ h1 (by omega) B).mono ?_
        rintro e w1 ⟨rfl, B1, m1⟩
        clear b1 b2 b3
        go_wp2_with fail
        go_ret
        exact ⟨rfl, ⟨l, a + n, h1, by omega, rfl, B1⟩, m1⟩
  · rw [show mBytes (l.drop a) c n = ([], l.drop a, c) from by simp [mBytes, hc]]
    have hc1 : (c == 0) = false := by simpa using hc
    have hc2 : (c != 0) = true := by simpa using hc
    go_enter Tryd.func58, Tryd.ntmps58
    go_wp2_with fail
    go_ret
    exact ⟨rfl, R, Mod.refl _ _⟩

theorem number_ok (l : Bs) (at_ : Nat) (p : Nat) (w : World) (hl : l.length ≤ 9223372036854775807) (ha : at_ ≤ l.length) (B : Blk w p #[.string ⟨List.toArray (l)⟩, .int .i64 (at_), .int .i64 (0)]) :
    Calls Tryd.prog 106 #[.pointer (some ⟨p, 0, none⟩)] w fun e w' => e = .returned (.tuple #[.int .i64 ((Pl.take (l.drop at_)).1), .int .i64 ((Pl.take (l.drop at_)).2.2)]) ∧ NumAt p l at_ w' ∧ Mod [p] w w' := by
  cases hs : l.drop at_ with
  | nil =>
    have hx : at_ = l.length := by
      have := congrArg List.length hs
      simp at this
      omega
    refine (number_empty l at_ p w hl hx B).mono ?_
    rintro e w1 ⟨rfl, B1, m1⟩
    exact ⟨rfl, ⟨at_, ha, by omega, B1, fun h => by rw [hs] at h; cases h⟩, m1⟩
  | cons k r =>
    rw [← hs]
    exact number_some l at_ k r p w hl hs B

theorem number_bad (l : Bs) (at_ : Nat) (c : Int) (hc : c ≠ 0) (p : Nat) (w : World) (B : Blk w p #[.string ⟨List.toArray (l)⟩, .int .i64 (at_), .int .i64 (c)]) :
    Calls Tryd.prog 106 #[.pointer (some ⟨p, 0, none⟩)] w fun e w' => e = .returned (.tuple #[.int .i64 (0), .int .i64 (c)]) ∧ ∃ n, w' = w.drewN n := by
  obtain ⟨b1, b2, b3⟩ := id B
  have hc1 : (c == 0) = false := by simpa using hc
  have hc2 : (c != 0) = true := by simpa using hc
  go_enter Tryd.func106, Tryd.ntmps106
  go_wp2_with fail
  go_quiet (fail)
  go_wp2_with fail
  go_ret2
  exact ⟨rfl, _, rfl⟩

theorem rnum_any (s : Bs) (c : Int) (p : Nat) (w : World) (R : Rdr w p s c) :
    Calls Tryd.prog 73 #[.pointer (some ⟨p, 0, none⟩)] w fun e w' => e = .returned (.int .i64 ((mNum s c).1)) ∧ Rdr w' p (mNum s c).2.1 (mNum s c).2.2 ∧ Mod [p] w w' := by
  obtain ⟨l, a, h1, h2, rfl, B⟩ := id R
  obtain ⟨b1, b2, b3⟩ := id B
  by_cases hc : c = 0
  · subst hc
    by_cases he : (Pl.take (l.drop a)).2.2 = 0
    · rw [show mNum (l.drop a) 0 = ((Pl.take (l.drop a)).1, (Pl.take (l.drop a)).2.1, 0) from by simp [mNum, he]]
      go_enter Tryd.func73, Tryd.ntmps73
      go_wp2_with fail
      refine (number_ok l a p _ h1 h2 B).mono ?_
      rintro e w1 ⟨rfl, ⟨x, hx1, hx2, B1, hx3⟩, m1⟩
      rw [he]
      have HX := Lib.hid (hx3 he)
      have HE := Lib.hid he
      clear hx3 he b1 b2 b3
      go_wp2_with fail
      go_ret
      exact ⟨rfl, ⟨l, x, h1, hx1, HX.out, B1⟩, m1⟩
    · rw [show mNum (l.drop a) 0 = (0, l.drop a, (Pl.take (l.drop a)).2.2) from by simp [mNum, he]]
      go_enter Tryd.func73, Tryd.ntmps73
      go_wp2_with fail
      refine (number_ok l a p _ h1 h2 B).mono ?_
      rintro e w1 ⟨rfl, ⟨x, hx1, hx2, B1, hx3⟩, m1⟩
      clear hx3 b1 b2 b3
      have hc2 : ((Pl.take (l.drop a)).2.2 != 0) = true := by simpa using he
      go_wp2_with fail
      refine (refused_yes l x a _ p _ B1).mono ?_
      rintro e w2 ⟨rfl, B2, m2⟩
      go_wp2_with fail
      go_ret
      exact ⟨rfl, ⟨l, a, h1, h2, rfl, B2⟩, m1.trans m2⟩
  · rw [show mNum (l.drop a) c = (0, l.drop a, c) from by simp [mNum, hc]]
    have hc2 : (c != 0) = true := by simpa using hc
    go_enter Tryd.func73, Tryd.ntmps73
    go_wp2_with fail
    refine (number_bad l a c hc p _ B).mono ?_
    rintro e w1 ⟨rfl, nq, rfl⟩
    go_wp2_with fail
    refine (refused_no l a a c c hc p _ (B.drewN nq)).mono ?_
    rintro e w2 ⟨rfl, rfl⟩
    go_wp2_with fail
    go_ret
    exact ⟨rfl, R.drewN nq, (Mod.refl _ _).drewN nq⟩

theorem rtext_in (l : Bs) (at_ : Nat) (most : Int) (p : Nat) (w : World) (hl : l.length ≤ 9223372036854775807) (ha : at_ ≤ l.length) (B : Blk w p #[.string ⟨List.toArray (l)⟩, .int .i64 (at_), .int .i64 (0)]) :
    Calls Tryd.prog 107 #[.pointer (some ⟨p, 0, none⟩), .int .i64 (most)] w fun e w' => e = .returned (.tuple #[.string ⟨List.toArray ((tx (l.drop at_) most).1)⟩, .int .i64 ((tx (l.drop at_) most).2.2)]) ∧
      (∃ x : Nat, x ≤ l.length ∧ Blk w' p #[.string ⟨List.toArray (l)⟩, .int .i64 (x), .int .i64 (0)] ∧ ((tx (l.drop at_) most).2.2 = 0 → l.drop x = (tx (l.drop at_) most).2.1)) ∧ Mod [p] w w' := by
  have htl := take_le (l.drop at_)
  by_cases he : (Pl.take (l.drop at_)).2.2 = 0
  · obtain ⟨hn, kk, hk1, hk2, hk3⟩ := htl he
    have hlen : (Pl.take (l.drop at_)).2.1.length + kk + at_ = l.length := by
      rw [hk3]; simp at hk2 ⊢; omega
    clear htl
    by_cases hm : most < (Pl.take (l.drop at_)).1
    · rw [show tx (l.drop at_) most = ([], [], 2) from by unfold tx; rw [if_neg (by simpa using he), if_pos hm]]
      go_enter Tryd.func107, Tryd.ntmps107
      go_wp2_with fail
      refine (number_ok l at_ p _ hl ha B).mono ?_
      rintro e w1 ⟨rfl, ⟨x, hx1, hx2, B1, hx3⟩, m1⟩
      rw [he]
      clear hx3 he hk3
      go_wp2_with fail
      go_ret2
      exact ⟨rfl, ⟨x, hx1, B1, fun h => by cases h⟩, m1⟩
    · by_cases hr : (Pl.take (l.drop at_)).2.1.length < (Pl.take (l.drop at_)).1
      · rw [show tx (l.drop at_) most = ([], [], 20) from by unfold tx; rw [if_neg (by simpa using he), if_neg hm, if_pos hr]]
        go_enter Tryd.func107, Tryd.ntmps107
        go_wp2_with fail
        refine (number_ok l at_ p _ hl ha B).mono ?_
        rintro e w1 ⟨rfl, ⟨x, hx1, hx2, B1, hx3⟩, m1⟩
        rw [he]
        have hx4 : (l.drop x).length = (Pl.take (l.drop at_)).2.1.length := by rw [hx3 he]
        have hx5 : l.length - x = (Pl.take (l.drop at_)).2.1.length := by simpa using hx4
        clear hx3 hx4 he hk3
        have HX := Lib.hid hx5
        clear hx5
        have HL := Lib.hid hlen
        clear hlen
        go_wp2_with fail
        refine (take_no l x _ 0 p _ hl hx1 (by have := HX.out; omega) B1).mono ?_
        rintro e w2 ⟨rfl, B2, m2⟩
        go_wp2_with fail
        go_ret2
        exact ⟨rfl, ⟨x, hx1, B2, fun h => by cases h⟩, m1.trans m2⟩
      · rw [show tx (l.drop at_) most = ((Pl.take (l.drop at_)).2.1.take (Pl.take (l.drop at_)).1, (Pl.take (l.drop at_)).2.1.drop (Pl.take (l.drop at_)).1, 0) from by unfold tx; rw [if_neg (by simpa using he), if_neg hm, if_neg hr]]
        go_enter Tryd.func107, Tryd.ntmps107
        go_wp2_with fail
        refine (number_ok l at_ p _ hl ha B).mono ?_
        rintro e w1 ⟨rfl, ⟨x, hx1, hx2, B1, hx3⟩, m1⟩
        rw [he]
        have hx4 := hx3 he
        have hx5 : l.length - x = (Pl.take (l.drop at_)).2.1.length := by rw [← hx4]; simp
        clear hx3 he hk3
        have HX := Lib.hid hx5
        have HX4 := Lib.hid hx4
        clear hx5 hx4
        have HL := Lib.hid hlen
        clear hlen
        have hgo : x + (Pl.take (l.drop at_)).1 ≤ l.length := by have := HX.out; omega
        go_wp2_with fail
        refine (take_yes l x _ 0 p _ hl hgo B1).mono ?_
        rintro e w2 ⟨rfl, B2, m2⟩
        go_wp2_with fail
        go_ret2
        refine ⟨ret_two (str_eq (by rw [HX4.out])) rfl, ⟨_, hgo, B2, fun _ => ?_⟩, m1.trans m2⟩
        rw [← List.drop_drop, HX4.out]
  · rw [show tx (l.drop at_) most = ([], [], (Pl.take (l.drop at_)).2.2) from by unfold tx; rw [if_pos he]]
    have hc2 : ((Pl.take (l.drop at_)).2.2 != 0) = true := by simpa using he
    clear htl
    go_enter Tryd.func107, Tryd.ntmps107
    go_wp2_with fail
    refine (number_ok l at_ p _ hl ha B).mono ?_
    rintro e w1 ⟨rfl, ⟨x, hx1, hx2, B1, hx3⟩, m1⟩
    clear hx3
    go_wp2_with fail
    go_ret2
    exact ⟨rfl, ⟨x, hx1, B1, fun h => absurd h he⟩, m1⟩

theorem rtext_bad (l : Bs) (at_ : Nat) (most c : Int) (hc : c ≠ 0) (p : Nat) (w : World) (B : Blk w p #[.string ⟨List.toArray (l)⟩, .int .i64 (at_), .int .i64 (c)]) :
    Calls Tryd.prog 107 #[.pointer (some ⟨p, 0, none⟩), .int .i64 (most)] w fun e w' => e = .returned (.tuple #[.string ⟨List.toArray ([])⟩, .int .i64 (c)]) ∧ ∃ n, w' = w.drewN n := by
  have hc2 : (c != 0) = true := by simpa using hc
  go_enter Tryd.func107, Tryd.ntmps107
  go_wp2_with fail
  refine (number_bad l at_ c hc p _ B).mono ?_
  rintro e w1 ⟨rfl, nq, rfl⟩
  go_wp2_with fail
  go_ret2
  exact ⟨rfl, _, rfl⟩

theorem rtext_any (s : Bs) (c most : Int) (p : Nat) (w : World) (R : Rdr w p s c) :
    Calls Tryd.prog 75 #[.pointer (some ⟨p, 0, none⟩), .int .i64 (most)] w fun e w' => e = .returned (.string ⟨List.toArray ((mText s c most).1)⟩) ∧ Rdr w' p (mText s c most).2.1 (mText s c most).2.2 ∧ Mod [p] w w' := by
  obtain ⟨l, a, h1, h2, rfl, B⟩ := id R
  obtain ⟨b1, b2, b3⟩ := id B
  by_cases hc : c = 0
  · subst hc
    by_cases he : (tx (l.drop a) most).2.2 = 0
    · rw [show mText (l.drop a) 0 most = ((tx (l.drop a) most).1, (tx (l.drop a) most).2.1, 0) from by simp [mText, he]]
      go_enter Tryd.func75, Tryd.ntmps75
      go_wp2_with fail
      refine (rtext_in l a most p _ h1 h2 B).mono ?_
      rintro e w1 ⟨rfl, ⟨x, hx1, B1, hx3⟩, m1⟩
      rw [he]
      have HX := Lib.hid (hx3 he)
      clear hx3 he b1 b2 b3
      go_wp2_with fail
      go_ret
      exact ⟨rfl, ⟨l, x, h1, hx1, HX.out, B1⟩, m1⟩
    · rw [show mText (l.drop a) 0 most = ([], l.drop a, (tx (l.drop a) most).2.2) from by simp [mText, he]]
      go_enter Tryd.func75, Tryd.ntmps75
      go_wp2_with fail
      refine (rtext_in l a most p _ h1 h2 B).mono ?_
      rintro e w1 ⟨rfl, ⟨x, hx1, B1, hx3⟩, m1⟩
      clear hx3 b1 b2 b3
      have hc2 : ((tx (l.drop a) most).2.2 != 0) = true := by simpa using he
      go_wp2_with fail
      refine (refused_yes l x a _ p _ B1).mono ?_
      rintro e w2 ⟨rfl, B2, m2⟩
      go_wp2_with fail
      go_ret
      exact ⟨rfl, ⟨l, a, h1, h2, rfl, B2⟩, m1.trans m2⟩
  · rw [show mText (l.drop a) c most = ([], l.drop a, c) from by simp [mText, hc]]
    have hc2 : (c != 0) = true := by simpa using hc
    go_enter Tryd.func75, Tryd.ntmps75
    go_wp2_with fail
    refine (rtext_bad l a most c hc p _ B).mono ?_
    rintro e w1 ⟨rfl, nq, rfl⟩
    go_wp2_with fail
    refine (refused_no l a a c c hc p _ (B.drewN nq)).mono ?_
    rintro e w2 ⟨rfl, rfl⟩
    go_wp2_with fail
    go_ret
    exact ⟨rfl, R.drewN nq, (Mod.refl _ _).drewN nq⟩

theorem rend_any (s : Bs) (c : Int) (p : Nat) (w : World) (R : Rdr w p s c) :
    Calls Tryd.prog 61 #[.pointer (some ⟨p, 0, none⟩)] w fun e w' => e = .returned (.int .i64 (mEnd s c)) ∧ Mod [p] w w' := by
  obtain ⟨l, a, h1, h2, rfl, B⟩ := id R
  obtain ⟨b1, b2, b3⟩ := id B
  by_cases hl : a = l.length
  · rw [show mEnd (l.drop a) c = c from by subst hl; simp [mEnd]]
    have h0 : ¬ (0 : Int) < (l.length : Int) - a := by omega
    have HL := Lib.hid hl
    clear hl
    go_enter Tryd.func61, Tryd.ntmps61
    go_wp2_with fail
    refine (left_any l a c p _ h1 h2 B).mono ?_
    rintro e w1 ⟨rfl, nq, rfl⟩
    go_wp2_with fail
    go_ret
    exact ⟨rfl, (Mod.refl _ _).drewN _⟩
  · have h0 : (0 : Int) < (l.length : Int) - a := by omega
    have hne : l.drop a ≠ [] := by intro h; have := congrArg List.length h; simp at this; omega
    by_cases hc : c = 0
    · subst hc
      rw [show mEnd (l.drop a) 0 = 3 from by unfold mEnd; rw [if_pos ⟨rfl, hne⟩]]
      go_enter Tryd.func61, Tryd.ntmps61
      go_wp2_with fail
      refine (left_any l a 0 p _ h1 h2 B).mono ?_
      rintro e w1 ⟨rfl, nq, rfl⟩
      go_wp2_with fail
      refine (refused_yes l a a 3 p _ (B.drewN nq)).mono ?_
      rintro e w2 ⟨rfl, B2, m2⟩
      clear b1 b2 b3
      obtain ⟨b1, b2, b3⟩ := id B2
      go_wp2_with fail
      go_ret
      exact ⟨rfl, ((Mod.refl _ _).drewN nq).trans m2⟩
    · rw [show mEnd (l.drop a) c = c from by unfold mEnd; rw [if_neg (fun h => hc h.1)]]
      go_enter Tryd.func61, Tryd.ntmps61
      go_wp2_with fail
      refine (left_any l a c p _ h1 h2 B).mono ?_
      rintro e w1 ⟨rfl, nq, rfl⟩
      go_wp2_with fail
      refine (refused_no l a a c 3 hc p _ (B.drewN nq)).mono ?_
      rintro e w2 ⟨rfl, rfl⟩
      go_wp2_with fail
      go_ret
      exact ⟨rfl, (Mod.refl _ _).drewN _⟩

end Go.Proofs.YtmldonbmjgelnaaDoor
