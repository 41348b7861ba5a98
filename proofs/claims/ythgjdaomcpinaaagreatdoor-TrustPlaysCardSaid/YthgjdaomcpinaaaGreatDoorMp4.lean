/- Reader, Num, Bs. -/
import Derived.Lib.AppendStr
import Derived.Laws.AppendOwnNone
import Derived.Test.YthgjdaomcpinaaaGreatDoorMp2
import Derived.Test.YthgjdaomcpinaaaGreatDoorMp3
set_option linter.unnecessarySimpa false
set_option linter.unusedSimpArgs false
set_option linter.unusedVariables false
set_option maxRecDepth 100000
set_option maxHeartbeats 32000000
namespace Go.Proofs.YthgjdaomcpinaaaGreatDoor
open Go.RowKit Pl
def Rdr (w : World) (p : Nat) (s : Bs) (c : Int) : Prop :=
 ∃ (l : Bs) (at_ : Nat), l.length ≤ 9223372036854775807 ∧ at_ ≤ l.length ∧ l.drop at_ = s ∧ Blk w p #[.string ⟨List.toArray l⟩, .int .i64 at_, .int .i64 c]
theorem Rdr.mod {w w' : World} {p : Nat} {s : Bs} {c : Int} (h : Rdr w p s c) {l : List Nat} (hm : Mod l w w') (hb : p ∉ l) : Rdr w' p s c := by
 obtain ⟨l, a, h1, h2, h3, B⟩ := h
 exact ⟨l, a, h1, h2, h3, B.mod hm hb⟩
theorem Rdr.lt {w : World} {p : Nat} {s : Bs} {c : Int} (h : Rdr w p s c) : p < w.heap.size := by
 obtain ⟨l, a, _, _, _, B⟩ := h
 exact B.lt
theorem Rdr.new {w : World} {s : Bs} {t : TypeId} (h : s.length ≤ 9223372036854775807) : Rdr (w.alloc (.cells #[.string ⟨List.toArray s⟩, .int .i64 0, .int .i64 0] t)) w.heap.size s 0 :=
 ⟨s, 0, h, by omega, rfl, Blk.new _ _ _⟩
theorem Rdr.alloc {w : World} {p : Nat} {s : Bs} {c : Int} (h : Rdr w p s c) (o : Obj) : Rdr (w.alloc o) p s c := by
 obtain ⟨l, a, h1, h2, h3, B⟩ := h
 exact ⟨l, a, h1, h2, h3, B.alloc o⟩
theorem Rdr.other {w : World} {p : Nat} {s : Bs} {c : Int} (h : Rdr w p s c) {x : Addr} (hx : x.block ≠ p) (v : Value) : Rdr (w.setCell x v) p s c := by
 obtain ⟨l, a, h1, h2, h3, B⟩ := h
 exact ⟨l, a, h1, h2, h3, B.other hx v⟩
theorem Rdr.drew {w : World} {p : Nat} {s : Bs} {c : Int} (h : Rdr w p s c) : Rdr w.drew p s c := by
 obtain ⟨l, a, h1, h2, h3, B⟩ := h
 exact ⟨l, a, h1, h2, h3, B.drew⟩
theorem Rdr.drewN {w : World} {p : Nat} {s : Bs} {c : Int} (h : Rdr w p s c) (n : Nat) : Rdr (w.drewN n) p s c := by
 obtain ⟨l, a, h1, h2, h3, B⟩ := h
 exact ⟨l, a, h1, h2, h3, B.drewN n⟩
theorem bytes_any (s : Bs) (c n : Int) (p : Nat) (w : World) (hn : n ≤ 9223372036854775807) (R : Rdr w p s c) :
  Calls Tryz.prog 105 #[.pointer (some ⟨p, 0, none⟩), .int .i64 n] w fun e w' => e = .returned (.string ⟨List.toArray ((mBytes s c n).1)⟩) ∧ Rdr w' p (mBytes s c n).2.1 (mBytes s c n).2.2 ∧ Mod [p] w w' := by
 obtain ⟨l, a, h1, h2, rfl, B⟩ := id R
 obtain ⟨b1, b2, b3⟩ := id B
 by_cases hc : c = 0
 ·subst hc
  by_cases hn0 : n < 0
  ·rw [show mBytes (l.drop a) 0 n = ([], l.drop a, 1) from by simp [mBytes, hn0]]
   go_enter Tryz.func105, Tryz.ntmps105
   go_wp2_with fail
   refine (refused_yes l a a 1 p _ B).mono ?_
   rintro e w1 ⟨rfl, B1, m1⟩
   clear b1 b2 b3
   go_wp2_with fail
   go_ret
   exact ⟨rfl, ⟨l, a, h1, h2, rfl, B1⟩, m1⟩
  ·obtain ⟨n, rfl⟩ := Int.eq_ofNat_of_zero_le (show 0 ≤ n by omega)
   by_cases hl : l.length < a + n
   ·rw [show mBytes (l.drop a) 0 n = ([], l.drop a, 20) from by unfold mBytes; rw [if_neg (by simp), if_neg (by omega), if_pos (by simp; omega)]]
    go_enter Tryz.func105, Tryz.ntmps105
    go_wp2_with fail
    refine (take_no l a n 0 p _ h1 h2 hl B).mono ?_
    rintro e w1 ⟨rfl, B1, m1⟩
    clear b1 b2 b3
    obtain ⟨b1, b2, b3⟩ := id B1
    go_wp2_with fail
    refine (refused_yes l a a 20 p _ B1).mono ?_
    rintro e w2 ⟨rfl, B2, m2⟩
    clear b1 b2 b3
    go_wp2_with fail
    go_ret
    exact ⟨rfl, ⟨l, a, h1, h2, rfl, B2⟩, m1.trans m2⟩
   ·rw [show mBytes (l.drop a) 0 n = ((l.drop a).take n, l.drop (a + n), 0) from by
     have : ¬ ((l.drop a).length : Int) < n := by simp; omega
     simp only [mBytes, this, ne_eq, not_true_eq_false, if_false]
     rw [if_neg (by omega)]; simp]
    go_enter Tryz.func105, Tryz.ntmps105
    go_wp2_with fail
    refine (take_yes l a n 0 p _ h1 (by omega) B).mono ?_
    rintro e w1 ⟨rfl, B1, m1⟩
    clear b1 b2 b3
    go_wp2_with fail
    go_ret
    exact ⟨rfl, ⟨l, a + n, h1, by omega, rfl, B1⟩, m1⟩
 ·rw [show mBytes (l.drop a) c n = ([], l.drop a, c) from by simp [mBytes, hc]]
  have hc1 : (c == 0) = false := by simpa using hc
  have hc2 : (c != 0) = true := by simpa using hc
  go_enter Tryz.func105, Tryz.ntmps105
  go_wp2_with fail
  go_ret
  exact ⟨rfl, R, Mod.refl _ _⟩
theorem number_ok (l : Bs) (at_ : Nat) (p : Nat) (w : World) (hl : l.length ≤ 9223372036854775807) (ha : at_ ≤ l.length) (B : Blk w p #[.string ⟨List.toArray l⟩, .int .i64 at_, .int .i64 0]) :
  Calls Tryz.prog 110 #[.pointer (some ⟨p, 0, none⟩)] w fun e w' => e = .returned (.tuple #[.int .i64 ((Pl.take (l.drop at_)).1), .int .i64 ((Pl.take (l.drop at_)).2.2)]) ∧ NumAt p l at_ w' ∧ Mod [p] w w' := by
 cases hs : l.drop at_ with
 | nil =>
  have hx : at_ = l.length := by
   have := congrArg List.length hs
   simp at this
   omega
  refine (number_empty l at_ p w hl hx B).mono ?_
  rintro e w1 ⟨rfl, B1, m1⟩
  exact ⟨rfl, ⟨at_, ha, by omega, B1, fun h => by rw [hs] at h; cases h⟩, m1⟩
 | cons k r =>
  rw [← hs]
  exact number_some l at_ k r p w hl hs B
theorem number_bad (l : Bs) (at_ : Nat) (c : Int) (hc : c ≠ 0) (p : Nat) (w : World) (B : Blk w p #[.string ⟨List.toArray l⟩, .int .i64 at_, .int .i64 c]) :
  Calls Tryz.prog 110 #[.pointer (some ⟨p, 0, none⟩)] w fun e w' => e = .returned (.tuple #[.int .i64 0, .int .i64 c]) ∧ ∃ n, w' = w.drewN n := by
 obtain ⟨b1, b2, b3⟩ := id B
 have hc1 : (c == 0) = false := by simpa using hc
 have hc2 : (c != 0) = true := by simpa using hc
 go_enter Tryz.func110, Tryz.ntmps110
 go_wp2_with fail
 go_quiet (fail)
 go_wp2_with fail
 go_ret2
 exact ⟨rfl, _, rfl⟩
theorem rnum_any (s : Bs) (c : Int) (p : Nat) (w : World) (R : Rdr w p s c) :
  Calls Tryz.prog 57 #[.pointer (some ⟨p, 0, none⟩)] w fun e w' => e = .returned (.int .i64 ((mNum s c).1)) ∧ Rdr w' p (mNum s c).2.1 (mNum s c).2.2 ∧ Mod [p] w w' := by
 obtain ⟨l, a, h1, h2, rfl, B⟩ := id R
 obtain ⟨b1, b2, b3⟩ := id B
 by_cases hc : c = 0
 ·subst hc
  by_cases he : (Pl.take (l.drop a)).2.2 = 0
  ·rw [show mNum (l.drop a) 0 = ((Pl.take (l.drop a)).1, (Pl.take (l.drop a)).2.1, 0) from by simp [mNum, he]]
   go_enter Tryz.func57, Tryz.ntmps57
   go_wp2_with fail
   refine (number_ok l a p _ h1 h2 B).mono ?_
   rintro e w1 ⟨rfl, ⟨x, hx1, hx2, B1, hx3⟩, m1⟩
   rw [he]
   have HX := Lib.hid (hx3 he)
   have HE := Lib.hid he
   clear hx3 he b1 b2 b3
   go_wp2_with fail
   go_ret
   exact ⟨rfl, ⟨l, x, h1, hx1, HX.out, B1⟩, m1⟩
  ·rw [show mNum (l.drop a) 0 = (0, l.drop a, (Pl.take (l.drop a)).2.2) from by simp [mNum, he]]
   go_enter Tryz.func57, Tryz.ntmps57
   go_wp2_with fail
   refine (number_ok l a p _ h1 h2 B).mono ?_
   rintro e w1 ⟨rfl, ⟨x, hx1, hx2, B1, hx3⟩, m1⟩
   clear hx3 b1 b2 b3
   have hc2 : ((Pl.take (l.drop a)).2.2 != 0) = true := by simpa using he
   go_wp2_with fail
   refine (refused_yes l x a _ p _ B1).mono ?_
   rintro e w2 ⟨rfl, B2, m2⟩
   go_wp2_with fail
   go_ret
   exact ⟨rfl, ⟨l, a, h1, h2, rfl, B2⟩, m1.trans m2⟩
 ·rw [show mNum (l.drop a) c = (0, l.drop a, c) from by simp [mNum, hc]]
  have hc2 : (c != 0) = true := by simpa using hc
  go_enter Tryz.func57, Tryz.ntmps57
  go_wp2_with fail
  refine (number_bad l a c hc p _ B).mono ?_
  rintro e w1 ⟨rfl, nq, rfl⟩
  go_wp2_with fail
  refine (refused_no l a a c c hc p _ (B.drewN nq)).mono ?_
  rintro e w2 ⟨rfl, rfl⟩
  go_wp2_with fail
  go_ret
  exact ⟨rfl, R.drewN nq, (Mod.refl _ _).drewN nq⟩
theorem rtext_in (l : Bs) (at_ : Nat) (most : Int) (p : Nat) (w : World) (hl : l.length ≤ 9223372036854775807) (ha : at_ ≤ l.length) (B : Blk w p #[.string ⟨List.toArray l⟩, .int .i64 at_, .int .i64 0]) :
  Calls Tryz.prog 107 #[.pointer (some ⟨p, 0, none⟩), .int .i64 most] w fun e w' => e = .returned (.tuple #[.string ⟨List.toArray ((tx (l.drop at_) most).1)⟩, .int .i64 ((tx (l.drop at_) most).2.2)]) ∧
   (∃ x : Nat, x ≤ l.length ∧ Blk w' p #[.string ⟨List.toArray l⟩, .int .i64 x, .int .i64 0] ∧ ((tx (l.drop at_) most).2.2 = 0 → l.drop x = (tx (l.drop at_) most).2.1)) ∧ Mod [p] w w' := by
 have htl := take_le (l.drop at_)
 by_cases he : (Pl.take (l.drop at_)).2.2 = 0
 ·obtain ⟨hn, kk, hk1, hk2, hk3⟩ := htl he
  have hlen : (Pl.take (l.drop at_)).2.1.length + kk + at_ = l.length := by
   rw [hk3]; simp at hk2 ⊢; omega
  clear htl
  by_cases hm : most < (Pl.take (l.drop at_)).1
  ·rw [show tx (l.drop at_) most = ([], [], 2) from by unfold tx; rw [if_neg (by simpa using he), if_pos hm]]
   go_enter Tryz.func107, Tryz.ntmps107
   go_wp2_with fail
   refine (number_ok l at_ p _ hl ha B).mono ?_
   rintro e w1 ⟨rfl, ⟨x, hx1, hx2, B1, hx3⟩, m1⟩
   rw [he]
   clear hx3 he hk3
   go_wp2_with fail
   go_ret2
   exact ⟨rfl, ⟨x, hx1, B1, fun h => by cases h⟩, m1⟩
  ·by_cases hr : (Pl.take (l.drop at_)).2.1.length < (Pl.take (l.drop at_)).1
   ·rw [show tx (l.drop at_) most = ([], [], 20) from by unfold tx; rw [if_neg (by simpa using he), if_neg hm, if_pos hr]]
    go_enter Tryz.func107, Tryz.ntmps107
    go_wp2_with fail
    refine (number_ok l at_ p _ hl ha B).mono ?_
    rintro e w1 ⟨rfl, ⟨x, hx1, hx2, B1, hx3⟩, m1⟩
    rw [he]
    have hx4 : (l.drop x).length = (Pl.take (l.drop at_)).2.1.length := by rw [hx3 he]
    have hx5 : l.length - x = (Pl.take (l.drop at_)).2.1.length := by simpa using hx4
    clear hx3 hx4 he hk3
    have HX := Lib.hid hx5
    clear hx5
    have HL := Lib.hid hlen
    clear hlen
    go_wp2_with fail
    refine (take_no l x _ 0 p _ hl hx1 (by have := HX.out; omega) B1).mono ?_
    rintro e w2 ⟨rfl, B2, m2⟩
    go_wp2_with fail
    go_ret2
    exact ⟨rfl, ⟨x, hx1, B2, fun h => by cases h⟩, m1.trans m2⟩
   ·rw [show tx (l.drop at_) most = ((Pl.take (l.drop at_)).2.1.take (Pl.take (l.drop at_)).1, (Pl.take (l.drop at_)).2.1.drop (Pl.take (l.drop at_)).1, 0) from by unfold tx; rw [if_neg (by simpa using he), if_neg hm, if_neg hr]]
    go_enter Tryz.func107, Tryz.ntmps107
    go_wp2_with fail
    refine (number_ok l at_ p _ hl ha B).mono ?_
    rintro e w1 ⟨rfl, ⟨x, hx1, hx2, B1, hx3⟩, m1⟩
    rw [he]
    have hx4 := hx3 he
    have hx5 : l.length - x = (Pl.take (l.drop at_)).2.1.length := by rw [← hx4]; simp
    clear hx3 he hk3
    have HX := Lib.hid hx5
    have HX4 := Lib.hid hx4
    clear hx5 hx4
    have HL := Lib.hid hlen
    clear hlen
    have hgo : x + (Pl.take (l.drop at_)).1 ≤ l.length := by have := HX.out; omega
    go_wp2_with fail
    refine (take_yes l x _ 0 p _ hl hgo B1).mono ?_
    rintro e w2 ⟨rfl, B2, m2⟩
    go_wp2_with fail
    go_ret2
    refine ⟨ret_two (str_eq (by rw [HX4.out])) rfl, ⟨_, hgo, B2, fun _ => ?_⟩, m1.trans m2⟩
    rw [← List.drop_drop, HX4.out]
 ·rw [show tx (l.drop at_) most = ([], [], (Pl.take (l.drop at_)).2.2) from by unfold tx; rw [if_pos he]]
  have hc2 : ((Pl.take (l.drop at_)).2.2 != 0) = true := by simpa using he
  clear htl
  go_enter Tryz.func107, Tryz.ntmps107
  go_wp2_with fail
  refine (number_ok l at_ p _ hl ha B).mono ?_
  rintro e w1 ⟨rfl, ⟨x, hx1, hx2, B1, hx3⟩, m1⟩
  clear hx3
  go_wp2_with fail
  go_ret2
  exact ⟨rfl, ⟨x, hx1, B1, fun h => absurd h he⟩, m1⟩
theorem rtext_bad (l : Bs) (at_ : Nat) (most c : Int) (hc : c ≠ 0) (p : Nat) (w : World) (B : Blk w p #[.string ⟨List.toArray l⟩, .int .i64 at_, .int .i64 c]) :
  Calls Tryz.prog 107 #[.pointer (some ⟨p, 0, none⟩), .int .i64 most] w fun e w' => e = .returned (.tuple #[.string ⟨List.toArray []⟩, .int .i64 c]) ∧ ∃ n, w' = w.drewN n := by
 have hc2 : (c != 0) = true := by simpa using hc
 go_enter Tryz.func107, Tryz.ntmps107
 go_wp2_with fail
 refine (number_bad l at_ c hc p _ B).mono ?_
 rintro e w1 ⟨rfl, nq, rfl⟩
 go_wp2_with fail
 go_ret2
 exact ⟨rfl, _, rfl⟩
theorem rtext_any (s : Bs) (c most : Int) (p : Nat) (w : World) (R : Rdr w p s c) :
  Calls Tryz.prog 55 #[.pointer (some ⟨p, 0, none⟩), .int .i64 most] w fun e w' => e = .returned (.string ⟨List.toArray ((mText s c most).1)⟩) ∧ Rdr w' p (mText s c most).2.1 (mText s c most).2.2 ∧ Mod [p] w w' := by
 obtain ⟨l, a, h1, h2, rfl, B⟩ := id R
 obtain ⟨b1, b2, b3⟩ := id B
 by_cases hc : c = 0
 ·subst hc
  by_cases he : (tx (l.drop a) most).2.2 = 0
  ·rw [show mText (l.drop a) 0 most = ((tx (l.drop a) most).1, (tx (l.drop a) most).2.1, 0) from by simp [mText, he]]
   go_enter Tryz.func55, Tryz.ntmps55
   go_wp2_with fail
   refine (rtext_in l a most p _ h1 h2 B).mono ?_
   rintro e w1 ⟨rfl, ⟨x, hx1, B1, hx3⟩, m1⟩
   rw [he]
   have HX := Lib.hid (hx3 he)
   clear hx3 he b1 b2 b3
   go_wp2_with fail
   go_ret
   exact ⟨rfl, ⟨l, x, h1, hx1, HX.out, B1⟩, m1⟩
  ·rw [show mText (l.drop a) 0 most = ([], l.drop a, (tx (l.drop a) most).2.2) from by simp [mText, he]]
   go_enter Tryz.func55, Tryz.ntmps55
   go_wp2_with fail
   refine (rtext_in l a most p _ h1 h2 B).mono ?_
   rintro e w1 ⟨rfl, ⟨x, hx1, B1, hx3⟩, m1⟩
   clear hx3 b1 b2 b3
   have hc2 : ((tx (l.drop a) most).2.2 != 0) = true := by simpa using he
   go_wp2_with fail
   refine (refused_yes l x a _ p _ B1).mono ?_
   rintro e w2 ⟨rfl, B2, m2⟩
   go_wp2_with fail
   go_ret
   exact ⟨rfl, ⟨l, a, h1, h2, rfl, B2⟩, m1.trans m2⟩
 ·rw [show mText (l.drop a) c most = ([], l.drop a, c) from by simp [mText, hc]]
  have hc2 : (c != 0) = true := by simpa using hc
  go_enter Tryz.func55, Tryz.ntmps55
  go_wp2_with fail
  refine (rtext_bad l a most c hc p _ B).mono ?_
  rintro e w1 ⟨rfl, nq, rfl⟩
  go_wp2_with fail
  refine (refused_no l a a c c hc p _ (B.drewN nq)).mono ?_
  rintro e w2 ⟨rfl, rfl⟩
  go_wp2_with fail
  go_ret
  exact ⟨rfl, R.drewN nq, (Mod.refl _ _).drewN nq⟩
theorem rend_any (s : Bs) (c : Int) (p : Nat) (w : World) (R : Rdr w p s c) :
  Calls Tryz.prog 58 #[.pointer (some ⟨p, 0, none⟩)] w fun e w' => e = .returned (.int .i64 (mEnd s c)) ∧ Mod [p] w w' := by
 obtain ⟨l, a, h1, h2, rfl, B⟩ := id R
 obtain ⟨b1, b2, b3⟩ := id B
 by_cases hl : a = l.length
 ·rw [show mEnd (l.drop a) c = c from by subst hl; simp [mEnd]]
  have h0 : ¬ (0 : Int) < (l.length : Int) - a := by omega
  have HL := Lib.hid hl
  clear hl
  go_enter Tryz.func58, Tryz.ntmps58
  go_wp2_with fail
  refine (left_any l a c p _ h1 h2 B).mono ?_
  rintro e w1 ⟨rfl, nq, rfl⟩
  go_wp2_with fail
  go_ret
  exact ⟨rfl, (Mod.refl _ _).drewN _⟩
 ·have h0 : (0 : Int) < (l.length : Int) - a := by omega
  have hne : l.drop a ≠ [] := by intro h; have := congrArg List.length h; simp at this; omega
  by_cases hc : c = 0
  ·subst hc
   rw [show mEnd (l.drop a) 0 = 3 from by unfold mEnd; rw [if_pos ⟨rfl, hne⟩]]
   go_enter Tryz.func58, Tryz.ntmps58
   go_wp2_with fail
   refine (left_any l a 0 p _ h1 h2 B).mono ?_
   rintro e w1 ⟨rfl, nq, rfl⟩
   go_wp2_with fail
   refine (refused_yes l a a 3 p _ (B.drewN nq)).mono ?_
   rintro e w2 ⟨rfl, B2, m2⟩
   clear b1 b2 b3
   obtain ⟨b1, b2, b3⟩ := id B2
   go_wp2_with fail
   go_ret
   exact ⟨rfl, ((Mod.refl _ _).drewN nq).trans m2⟩
  ·rw [show mEnd (l.drop a) c = c from by unfold mEnd; rw [if_neg (fun h => hc h.1)]]
   go_enter Tryz.func58, Tryz.ntmps58
   go_wp2_with fail
   refine (left_any l a c p _ h1 h2 B).mono ?_
   rintro e w1 ⟨rfl, nq, rfl⟩
   go_wp2_with fail
   refine (refused_no l a a c 3 hc p _ (B.drewN nq)).mono ?_
   rintro e w2 ⟨rfl, rfl⟩
   go_wp2_with fail
   go_ret
   exact ⟨rfl, (Mod.refl _ _).drewN _⟩
end Go.Proofs.YthgjdaomcpinaaaGreatDoor
namespace Go.Proofs.YthgjdaomcpinaaaGreatDoor
open Go.RowKit Pl
def numCells (k : Nat) (d : Bs) : Array Value := ((List.replicate k 0 ++ d).map fun c : UInt8 => Value.int .u8 (c.toNat : Int)).toArray
theorem numCells_get (k : Nat) (d : Bs) (hk : 0 < k) : (numCells k d)[k - 1]? = some (.int .u8 0) := by
 have : ((List.replicate k (0 : UInt8) ++ d).map fun c : UInt8 => Value.int .u8 (c.toNat : Int))[k - 1]? = some (.int .u8 0) := by
  rw [List.getElem?_map, List.getElem?_append_left (by simp; omega), List.getElem?_replicate, if_pos (by omega)]
  rfl
 simpa [numCells] using this
theorem numCells_set (k : Nat) (d : Bs) (hk : 0 < k) (c : UInt8) : (numCells k d).setIfInBounds (k - 1) (.int .u8 (c.toNat : Int)) = numCells (k - 1) (c :: d) := by
 obtain ⟨j, rfl⟩ : ∃ j, k = j + 1 := ⟨k - 1, by omega⟩
 unfold numCells
 apply Array.ext'
 simp only [Array.toList_setIfInBounds, Nat.add_sub_cancel]
 rw [List.replicate_succ', List.append_assoc, List.map_append, List.map_append]
 rw [List.set_append_right _ _ (by simp)]
 simp
theorem numCells_tail (k : Nat) (d : Bs) (i : Nat) (hi : i < d.length) : (numCells k d)[k + i]? = some (.int .u8 ((d.getD i 0).toNat : Int)) := by
 have : ((List.replicate k (0 : UInt8) ++ d).map fun c : UInt8 => Value.int .u8 (c.toNat : Int))[k + i]? = some (.int .u8 ((d.getD i 0).toNat : Int)) := by
  rw [List.getElem?_map, List.getElem?_append_right (by simp)]
  simp [List.getD, List.getElem?_eq_getElem hi]
 simpa [numCells] using this
theorem cnum_any (n : Nat) (hn : n < 9223372036854775808) (w : World) :
  Calls Tryz.prog 98 #[.int .i64 n] w fun e w' => e = .returned (.string ⟨List.toArray (num n)⟩) ∧ Below w.heap.size w w' := by
 go_enter Tryz.func98, Tryz.ntmps98
 go_wp2_with fail
 go_loopw [0, 4] (fun s0 s4 wr => ∃ (k m : Nat) (d : Bs), k ≤ 8 ∧ d.length + k = 8 ∧ m < 256 ^ k ∧ m < 9223372036854775808 ∧ Hid (digs 8 n = digs k m ++ d) ∧ s0 = .int .i64 m ∧ s4 = .int .i64 k ∧ Blk wr w.heap.size (numCells k d) ∧ Below w.heap.size w wr)
  (fun _ s4 _ => (intOf s4).toNat)
 case atStart =>
  exact ⟨8, n, [], by omega, rfl, by omega, hn, Lib.hid (by simp), rfl, rfl, Blk.new _ _ _, (Below.refl _ _).alloc (Nat.le_refl _) _⟩
 case round =>
  obtain ⟨k, m, d, hk, hd, hm, hm2, HD, rfl, rfl, B, hb⟩ := hrel
  obtain ⟨b1, b2, b3⟩ := id B
  by_cases h0 : 0 < m
  ·have hk0 : 0 < k := by
    rcases Nat.eq_zero_or_pos k with h | h
    ·subst h; omega
    ·exact h
   have hget := numCells_get k d hk0
   go_wp2_with fail
   obtain ⟨j, rfl⟩ : ∃ j, k = j + 1 := ⟨k - 1, by omega⟩
   refine ⟨⟨j, m / 256, UInt8.ofNat (m % 256) :: d, by omega, by simp at hd ⊢; omega, by rw [Nat.pow_succ] at hm; omega, by omega, ?_, by go_num, by simp, ?_, hb.setCell (Nat.le_refl _) _⟩, by simp [intOf] <;> omega⟩
   ·refine Lib.hid ?_
    rw [HD.out, digs_step _ _ h0, List.append_assoc]; rfl
   ·have hB := B.set j (.int .u8 ((UInt8.ofNat (m % 256)).toNat : Int))
    have hc := numCells_set (j + 1) d (by omega) (UInt8.ofNat (m % 256))
    simp only [Nat.add_sub_cancel] at hc
    rw [hc] at hB
    have hv : ((UInt8.ofNat (m % 256)).toNat : Int) = (m : Int) % 256 := by simp
    rw [hv] at hB
    exact hB
  ·have hm0 : m = 0 := by omega
   subst hm0
   have hfin : num n = UInt8.ofNat d.length :: d := by
    unfold num
    rw [HD.out, digs_zero, List.nil_append]
   have HF := Lib.hid hfin
   clear hfin
   have hconv : ∀ W : World, (∀ o, W.cell? ⟨w.heap.size, o, none⟩ = (numCells k d)[o]?) → (convert 113 9 (.slice (some ⟨w.heap.size, k, none⟩) (8 - k) (8 - k))).run Tryz.prog W = .ok (.string ⟨List.toArray d⟩) W := fun W hW =>
    conv_str _ 5 _ Tryz.underlying113 Tryz.underlying5 Tryz.underlying9 _ _ _ _ d (by omega) (fun i hi => by rw [hW]; exact numCells_tail k d i (by omega))
   have hk8 : (k : Int) ≤ 8 := by omega
   have hcat : ¬ 9223372036854775807 < 1 + d.length := by omega
   have hu8 : UInt8.ofNat (8 - k) = UInt8.ofNat d.length := by congr 1; omega
   by_cases h8 : k = 8
   ·subst h8
    have hd0 : d = [] := List.length_eq_zero_iff.1 (by omega)
    subst hd0
    clear hconv
    go_wp2_with fail
    go_region
    all_goals go_wp2_with fail
    all_goals go_ret
    all_goals exact ⟨by rw [HF.out]; rfl, by (repeat (first | exact Below.refl _ _ | assumption | apply Below.drew | apply below_drewN | apply Below.allocS | (refine Below.setCell ?_ (by simp <;> omega) _) | (refine Below.alloc ?_ (by simp <;> omega) _) | (refine Below.trans ?_ (Below.mono (by assumption) (by simp <;> omega)))))⟩
   ·have h8n : ¬ 8 = k := by omega
    go_wp2_with fail
    go_region
    all_goals go_wp2_with fail
    all_goals go_ret
    all_goals exact ⟨by rw [HF.out]; rfl, by (repeat (first | exact Below.refl _ _ | assumption | apply Below.drew | apply below_drewN | apply Below.allocS | (refine Below.setCell ?_ (by simp <;> omega) _) | (refine Below.alloc ?_ (by simp <;> omega) _) | (refine Below.trans ?_ (Below.mono (by assumption) (by simp <;> omega)))))⟩
theorem num_len (n : Nat) : (num n).length ≤ 9 := by
 have : ∀ f m, (digs f m).length ≤ f := by
  intro f
  induction f with
  | zero => intro m; simp [digs]
  | succ f ih =>
   intro m
   unfold digs
   split
   ·simp
   ·have := ih (m / 256); simp; omega
 have := this 8 n
 simp [num]; omega
theorem ctext_any (s : Bs) (hs : s.length < 9223372036854775000) (w : World) :
  Calls Tryz.prog 50 #[.string ⟨List.toArray s⟩] w fun e w' => e = .returned (.string ⟨List.toArray (text s)⟩) ∧ Below w.heap.size w w' := by
 have hl := num_len s.length
 have hcat : ¬ 9223372036854775807 < (num s.length).length + s.length := by omega
 go_enter Tryz.func50, Tryz.ntmps50
 go_wp2_with fail
 refine (cnum_any s.length (by omega) _).mono ?_
 rintro e w1 ⟨rfl, hb⟩
 go_wp2_with fail
 go_ret
 exact ⟨rfl, hb⟩
theorem cNum_any (n : Nat) (hn : n < 9223372036854775808) (w : World) :
  Calls Tryz.prog 49 #[.int .i64 n] w fun e w' => e = .returned (.tuple #[.string ⟨List.toArray (num n)⟩, .int .i64 0]) ∧ Below w.heap.size w w' := by
 go_enter Tryz.func49, Tryz.ntmps49
 go_wp2_with fail
 refine (cnum_any n hn _).mono ?_
 rintro e w1 ⟨rfl, hb⟩
 go_wp2_with fail
 go_ret2
 exact ⟨rfl, hb⟩
end Go.Proofs.YthgjdaomcpinaaaGreatDoor
namespace Go.Proofs.YthgjdaomcpinaaaGreatDoor
open Go.RowKit
def BS (w : World) (v : Value) (l : List UInt8) : Prop :=
 (v = .slice none 0 0 ∧ l = []) ∨ ∃ g off cap, v = .slice (some ⟨g, off, none⟩) l.length cap ∧ l.length ≤ cap ∧ cap ≤ maxLen ∧ g < w.heap.size ∧ BSrc w g off l
theorem BRow.bs {w : World} {base : Nat} {v : Value} {l : List UInt8} (h : BRow w base v l) : BS w v l := by
 rcases h.cells with h | ⟨g, cap, h1, h2, h3, h4, h5, h6, h7⟩
 ·exact .inl h
 ·exact .inr ⟨g, 0, cap, h1, h4, h5, h3, fun i hi => by rw [Nat.zero_add]; exact h6 i hi⟩
theorem BRow.mono {w : World} {b b' : Nat} {v : Value} {l : List UInt8} (h : BRow w b v l) (hb : b' ≤ b) : BRow w b' v l := by
 refine ⟨h.1, h.2.imp id ?_⟩
 rintro ⟨g, cap, cur, hv, h1, h2⟩
 exact ⟨g, cap, cur, hv, Nat.le_trans hb h1, h2⟩
theorem BS.len {w : World} {v : Value} {l : List UInt8} (h : BS w v l) : ∃ a c, v = .slice a l.length c := by
 rcases h with ⟨rfl, rfl⟩ | ⟨g, off, cap, rfl, _⟩
 ·exact ⟨none, 0, rfl⟩
 ·exact ⟨_, cap, rfl⟩
section
variable {ops : Array Oper} {o : Oper} {a : Act} {w : World} {Q : Exit → Act → World → Prop}
theorem wp_appBS {K : Act → World → Prop} (s x : Operand)
  (ho : o.op = .call { callee := .builtin .append, args := #[s, x], argTypes := #[113, 113] })
  (base : Nat) (v : Value) (l : List UInt8) (hs : a.eval s = v) (hown : BRow w base v l)
  (u : Value) (news : List UInt8) (hx : a.eval x = u) (hsrc : BS w u news)
  (hlen : l.length + news.length ≤ 140737488355328) (hbase : base ≤ w.heap.size)
  (h : ∀ v' w', BRow w' base v' (l ++ news) → w.grownBy w' v.ownBlock → K (a.put o.dst v') w') : o.wp Tryz.prog a w K Q := by
 obtain ⟨i0, hi, hz0, hz1, hz2⟩ := info_parts infoU8
 rcases hsrc with ⟨rfl, rfl⟩ | ⟨g, off, cap, rfl, h1, h2, h3, h4⟩
 ·obtain ⟨v', w', hr, h2, h3⟩ : ∃ v' w', (Builtin.append_ #[113, 113] o.type #[v, .slice none 0 0]).run Tryz.prog w = .ok v' w' ∧ BRow w' base v' l ∧ w.grownBy w' v.ownBlock := by
   rcases hown.cells with ⟨rfl, rfl⟩ | ⟨g, cap, rfl, q1, q2, q3, q4, q5, q6⟩
   ·refine ⟨.slice none 0 0, w, ?_, BRow.nil _ _, ⟨rfl, rfl, rfl, Nat.le_refl _, fun _ _ _ => rfl⟩⟩
    simp [Builtin.append_, run_underlying Tryz.underlying113, sizeOf, typeInfo, hi, hz1, Builtin.lenOf, Builtin.firstCells]
   ·refine ⟨.slice (some ⟨g, 0, none⟩) l.length cap, w, ?_, hown, ⟨rfl, rfl, rfl, Nat.le_refl _, fun _ _ _ => rfl⟩⟩
    simp [Builtin.append_, run_underlying Tryz.underlying113, sizeOf, typeInfo, hi, hz1, Builtin.lenOf, Builtin.firstCells, q3, storeCells]
  unfold Oper.wp execOp
  simp only [ho, resolve, invoke, builtin, Sem.run_bind, Sem.run_pure, Result.andThen_ok, List.map_toArray, List.map_cons, List.map_nil, hs, hx, hr]
  exact h v' w' (by rw [List.append_nil]; exact h2) h3
 ·refine wp_append_own w s x 113 ho base 5 i0 (.int .u8 0) 1 1 Tryz.underlying113 hi hz0 hz1 hz2 rfl (by decide) v l.length (bv l) hs hown ⟨g, off, none⟩ news.length cap (bv news) hx (by rw [bv_len]; omega) (bsrc_news h4) (bone news)
   (by unfold maxLen; omega) (by omega) hbase (fun v' w' h2 h3 _ => h v' w' ?_ h3)
  unfold BRow
  rw [List.length_append, show bv (l ++ news) = bv l ++ bv news from by simp [bv]]
  exact h2
theorem wpList_appBS {rest : List Oper} (hgd : o.guard = none) (s x : Operand)
  (ho : o.op = .call { callee := .builtin .append, args := #[s, x], argTypes := #[113, 113] })
  (base : Nat) (v : Value) (l : List UInt8) (hs : a.eval s = v) (hown : BRow w base v l)
  (u : Value) (news : List UInt8) (hx : a.eval x = u) (hsrc : BS w u news)
  (hlen : l.length + news.length ≤ 140737488355328) (hbase : base ≤ w.heap.size)
  (h : ∀ v' w', BRow w' base v' (l ++ news) → w.grownBy w' v.ownBlock → wpList Tryz.prog ops Q rest (a.put o.dst v') w') : wpList Tryz.prog ops Q (o :: rest) a w :=
 wpList_plain hgd fun _ hK => wp_appBS s x ho base v l hs hown u news hx hsrc hlen hbase fun v' w' h2 h3 => hK _ _ (h v' w' h2 h3)
theorem step_appBS {K : Act → World → Prop} {E : Prop} (hgd : o.guard = none) (s x : Operand)
  (ho : o.op = .call { callee := .builtin .append, args := #[s, x], argTypes := #[113, 113] })
  (base : Nat) (v : Value) (l : List UInt8) (hs : a.eval s = v) (hown : BRow w base v l)
  (u : Value) (news : List UInt8) (hx : a.eval x = u) (hsrc : BS w u news)
  (hlen : l.length + news.length ≤ 140737488355328) (hbase : base ≤ w.heap.size)
  (h : ∀ v' w', BRow w' base v' (l ++ news) → w.grownBy w' v.ownBlock → K (a.put o.dst v') w') :
  if Region.wanted o (yielded ops a.tmps) = true then Oper.wp Tryz.prog o a w K Q else E := by
 have hw : Region.wanted o (yielded ops a.tmps) = true := by simp [Region.wanted, hgd]
 rw [if_pos hw]
 exact wp_appBS s x ho base v l hs hown u news hx hsrc hlen hbase h
theorem wp_appBT {K : Act → World → Prop} (s x : Operand)
  (ho : o.op = .call { callee := .builtin .append, args := #[s, x], argTypes := #[113, 9] })
  (base : Nat) (v : Value) (l : List UInt8) (hs : a.eval s = v) (hown : BRow w base v l)
  (news : List UInt8) (hx : a.eval x = .string ⟨List.toArray news⟩)
  (hlen : l.length + news.length ≤ 140737488355328) (hbase : base ≤ w.heap.size)
  (h : ∀ v' w', BRow w' base v' (l ++ news) → w.grownBy w' v.ownBlock → K (a.put o.dst v') w') : o.wp Tryz.prog a w K Q := by
 obtain ⟨i0, hi, hz0, hz1, hz2⟩ := info_parts infoU8
 have hsz : (⟨news.toArray⟩ : ByteArray).size = news.length := by simp [ByteArray.size]
 obtain ⟨v', w', hr, h2, h3, _⟩ := Lib.run_append_own_string (P := Tryz.prog) w base 113 9 o.type 5 i0 Tryz.underlying113 Tryz.underlying9 hi hz0 hz1 hz2 v l.length (bv l) hown ⟨news.toArray⟩ (by rw [hsz]; unfold maxLen; omega) (by rw [hsz]; omega) hbase
 unfold Oper.wp execOp
 simp only [ho, resolve, invoke, builtin, Sem.run_bind, Sem.run_pure, Result.andThen_ok, List.map_toArray, List.map_cons, List.map_nil, hs, hx, hr]
 refine h v' w' ?_ h3
 unfold BRow
 rw [List.length_append, show bv (l ++ news) = bv l ++ bv news from by simp [bv]]
 rw [hsz] at h2
 exact h2
theorem step_appBT {K : Act → World → Prop} {E : Prop} (hgd : o.guard = none) (s x : Operand)
  (ho : o.op = .call { callee := .builtin .append, args := #[s, x], argTypes := #[113, 9] })
  (base : Nat) (v : Value) (l : List UInt8) (hs : a.eval s = v) (hown : BRow w base v l)
  (news : List UInt8) (hx : a.eval x = .string ⟨List.toArray news⟩)
  (hlen : l.length + news.length ≤ 140737488355328) (hbase : base ≤ w.heap.size)
  (h : ∀ v' w', BRow w' base v' (l ++ news) → w.grownBy w' v.ownBlock → K (a.put o.dst v') w') :
  if Region.wanted o (yielded ops a.tmps) = true then Oper.wp Tryz.prog o a w K Q else E := by
 have hw : Region.wanted o (yielded ops a.tmps) = true := by simp [Region.wanted, hgd]
 rw [if_pos hw]
 exact wp_appBT s x ho base v l hs hown news hx hlen hbase h
end
theorem grown_nil {w w' : World} (hg : w.grownBy w' none) : Below w.heap.size w w' := grown_below hg (Nat.le_refl _) (fun k hk => by cases hk)
theorem grown_mod {w w' : World} {row : Option Nat} (hg : w.grownBy w' row) : Mod row.toList w w' :=
 ⟨hg.os, hg.tape, hg.output, hg.size, fun k hk hn => hg.block k hk (fun e => hn (by rw [← e]; simp))⟩
theorem ownBlock_lt {w : World} {base : Nat} {v : Value} {l : List UInt8} (h : BRow w base v l) : ∀ k, v.ownBlock = some k → base ≤ k ∧ k < w.heap.size := by
 intro k hk
 rcases h.cells with ⟨rfl, _⟩ | ⟨g, cap, rfl, hb, hg, _⟩
 ·cases hk
 ·cases hk; exact ⟨hb, hg⟩
end Go.Proofs.YthgjdaomcpinaaaGreatDoor
