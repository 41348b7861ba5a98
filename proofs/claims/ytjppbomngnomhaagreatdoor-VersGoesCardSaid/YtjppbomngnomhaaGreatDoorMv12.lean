/- Reader, List, BothP, Of, Sort, Orac, Store, ShaC, MWorks, Sign, StoreW, Keys, Sums, Unpack. -/
import Derived.Lib.ConvBytes
import Derived.Deep.AppendSrc
import Derived.Lib.SlicesCompact
import Derived.Maps.Views
import Derived.Maps.OwnOps
import Derived.Maps.Own
import Derived.Shelf.Slices.In.SortNone
import Derived.Sort.OwnSorted
import Derived.Sort.EveryDepth
import Derived.Lib.OwnBridge
import Derived.DeepKeys4
import Derived.Maps.OwnSet
import Derived.Sort.KeysCollected
import Derived.Lib.OwnKind
import Derived.Test.YtjppbomngnomhaaGreatDoorMv11
set_option linter.unnecessarySimpa false
set_option linter.unusedSimpArgs false
set_option linter.unusedVariables false
set_option maxRecDepth 100000
set_option maxHeartbeats 32000000
namespace Go.Proofs.YtjppbomngnomhaaGreatDoor
open Go.RowKit Pl
def Rdr (w : World) (p : Nat) (s : Bs) (c : Int) : Prop :=
 ∃ (l : Bs) (at_ : Nat), l.length ≤ 9223372036854775807 ∧ at_ ≤ l.length ∧ l.drop at_ = s ∧ Blk w p #[.string ⟨List.toArray l⟩, .int .i64 at_, .int .i64 c]
theorem Rdr.mod {w w' : World} {p : Nat} {s : Bs} {c : Int} (h : Rdr w p s c) {l : List Nat} (hm : Mod l w w') (hb : p ∉ l) : Rdr w' p s c := by
 obtain ⟨l, a, h1, h2, h3, B⟩ := h
 exact ⟨l, a, h1, h2, h3, B.mod hm hb⟩
theorem Rdr.new {w : World} {s : Bs} {t : TypeId} (h : s.length ≤ 9223372036854775807) : Rdr (w.alloc (.cells #[.string ⟨List.toArray s⟩, .int .i64 0, .int .i64 0] t)) w.heap.size s 0 :=
 ⟨s, 0, h, by omega, rfl, Blk.new _ _ _⟩
theorem Rdr.alloc {w : World} {p : Nat} {s : Bs} {c : Int} (h : Rdr w p s c) (o : Obj) : Rdr (w.alloc o) p s c := by
 obtain ⟨l, a, h1, h2, h3, B⟩ := h
 exact ⟨l, a, h1, h2, h3, B.alloc o⟩
theorem Rdr.other {w : World} {p : Nat} {s : Bs} {c : Int} (h : Rdr w p s c) {x : Addr} (hx : x.block ≠ p) (v : Value) : Rdr (w.setCell x v) p s c := by
 obtain ⟨l, a, h1, h2, h3, B⟩ := h
 exact ⟨l, a, h1, h2, h3, B.other hx v⟩
theorem Rdr.drew {w : World} {p : Nat} {s : Bs} {c : Int} (h : Rdr w p s c) : Rdr w.drew p s c := by
 obtain ⟨l, a, h1, h2, h3, B⟩ := h
 exact ⟨l, a, h1, h2, h3, B.drew⟩
theorem Rdr.drewN {w : World} {p : Nat} {s : Bs} {c : Int} (h : Rdr w p s c) (n : Nat) : Rdr (w.drewN n) p s c := by
 obtain ⟨l, a, h1, h2, h3, B⟩ := h
 exact ⟨l, a, h1, h2, h3, B.drewN n⟩
theorem bytes_any (s : Bs) (c n : Int) (p : Nat) (w : World) (hn : n ≤ 9223372036854775807) (R : Rdr w p s c) :
  Calls Tryz.prog 107 #[.pointer (some ⟨p, 0, none⟩), .int .i64 n] w fun e w' => e = .returned (.string ⟨List.toArray ((mBytes s c n).1)⟩) ∧ Rdr w' p (mBytes s c n).2.1 (mBytes s c n).2.2 ∧ Mod [p] w w' := by
 obtain ⟨l, a, h1, h2, rfl, B⟩ := id R
 obtain ⟨b1, b2, b3⟩ := id B
 by_cases hc : c = 0
 ·subst hc
  by_cases hn0 : n < 0
  ·rw [show mBytes (l.drop a) 0 n = ([], l.drop a, 1) from by simp [mBytes, hn0]]
   go_enter Tryz.func107, Tryz.ntmps107
   go_wp2_with fail
   refine (refused_yes l a a 1 p _ B).mono ?_
   rintro e w1 ⟨rfl, B1, m1⟩
   clear b1 b2 b3
   go_wp2_with fail
   go_ret
   exact ⟨rfl, ⟨l, a, h1, h2, rfl, B1⟩, m1⟩
  ·obtain ⟨n, rfl⟩ := Int.eq_ofNat_of_zero_le (show 0 ≤ n by omega)
   by_cases hl : l.length < a + n
   ·rw [show mBytes (l.drop a) 0 n = ([], l.drop a, 20) from by unfold mBytes; rw [if_neg (by simp), if_neg (by omega), if_pos (by simp; omega)]]
    go_enter Tryz.func107, Tryz.ntmps107
    go_wp2_with fail
    refine (take_no l a n 0 p _ h1 h2 hl B).mono ?_
    rintro e w1 ⟨rfl, B1, m1⟩
    clear b1 b2 b3
    obtain ⟨b1, b2, b3⟩ := id B1
    go_wp2_with fail
    refine (refused_yes l a a 20 p _ B1).mono ?_
    rintro e w2 ⟨rfl, B2, m2⟩
    clear b1 b2 b3
    go_wp2_with fail
    go_ret
    exact ⟨rfl, ⟨l, a, h1, h2, rfl, B2⟩, m1.trans m2⟩
   ·rw [show mBytes (l.drop a) 0 n = ((l.drop a).take n, l.drop (a + n), 0) from by
     have : ¬ ((l.drop a).length : Int) < n := by simp; omega
     simp only [mBytes, this, ne_eq, not_true_eq_false, if_false]
     rw [if_neg (by omega)]; simp]
    go_enter Tryz.func107, Tryz.ntmps107
    go_wp2_with fail
    refine (take_yes l a n 0 p _ h1 (by omega) B).mono ?_
    rintro e w1 ⟨rfl, B1, m1⟩
    clear b1 b2 b3
    go_wp2_with fail
    go_ret
    exact ⟨rfl, ⟨l, a + n, h1, by omega, rfl, B1⟩, m1⟩
 ·rw [show mBytes (l.drop a) c n = ([], l.drop a, c) from by simp [mBytes, hc]]
  have hc1 : (c == 0) = false := by simpa using hc
  have hc2 : (c != 0) = true := by simpa using hc
  go_enter Tryz.func107, Tryz.ntmps107
  go_wp2_with fail
  go_ret
  exact ⟨rfl, R, Mod.refl _ _⟩
theorem number_ok (l : Bs) (at_ : Nat) (p : Nat) (w : World) (hl : l.length ≤ 9223372036854775807) (ha : at_ ≤ l.length) (B : Blk w p #[.string ⟨List.toArray l⟩, .int .i64 at_, .int .i64 0]) :
  Calls Tryz.prog 144 #[.pointer (some ⟨p, 0, none⟩)] w fun e w' => e = .returned (.tuple #[.int .i64 ((Pl.take (l.drop at_)).1), .int .i64 ((Pl.take (l.drop at_)).2.2)]) ∧ NumAt p l at_ w' ∧ Mod [p] w w' := by
 cases hs : l.drop at_ with
 | nil =>
  have hx : at_ = l.length := by
   have := congrArg List.length hs
   simp at this
   omega
  refine (number_empty l at_ p w hl hx B).mono ?_
  rintro e w1 ⟨rfl, B1, m1⟩
  exact ⟨rfl, ⟨at_, ha, by omega, B1, fun h => by rw [hs] at h; cases h⟩, m1⟩
 | cons k r =>
  rw [← hs]
  exact number_some l at_ k r p w hl hs B
theorem number_bad (l : Bs) (at_ : Nat) (c : Int) (hc : c ≠ 0) (p : Nat) (w : World) (B : Blk w p #[.string ⟨List.toArray l⟩, .int .i64 at_, .int .i64 c]) :
  Calls Tryz.prog 144 #[.pointer (some ⟨p, 0, none⟩)] w fun e w' => e = .returned (.tuple #[.int .i64 0, .int .i64 c]) ∧ ∃ n, w' = w.drewN n := by
 obtain ⟨b1, b2, b3⟩ := id B
 have hc1 : (c == 0) = false := by simpa using hc
 have hc2 : (c != 0) = true := by simpa using hc
 go_enter Tryz.func144, Tryz.ntmps144
 go_wp2_with fail
 go_quiet (fail)
 go_wp2_with fail
 go_ret2
 exact ⟨rfl, _, rfl⟩
theorem rtext_in (l : Bs) (at_ : Nat) (most : Int) (p : Nat) (w : World) (hl : l.length ≤ 9223372036854775807) (ha : at_ ≤ l.length) (B : Blk w p #[.string ⟨List.toArray l⟩, .int .i64 at_, .int .i64 0]) :
  Calls Tryz.prog 140 #[.pointer (some ⟨p, 0, none⟩), .int .i64 most] w fun e w' => e = .returned (.tuple #[.string ⟨List.toArray ((tx (l.drop at_) most).1)⟩, .int .i64 ((tx (l.drop at_) most).2.2)]) ∧
   (∃ x : Nat, x ≤ l.length ∧ Blk w' p #[.string ⟨List.toArray l⟩, .int .i64 x, .int .i64 0] ∧ ((tx (l.drop at_) most).2.2 = 0 → l.drop x = (tx (l.drop at_) most).2.1)) ∧ Mod [p] w w' := by
 have htl := take_le (l.drop at_)
 by_cases he : (Pl.take (l.drop at_)).2.2 = 0
 ·obtain ⟨hn, kk, hk1, hk2, hk3⟩ := htl he
  have hlen : (Pl.take (l.drop at_)).2.1.length + kk + at_ = l.length := by
   rw [hk3]; simp at hk2 ⊢; omega
  clear htl
  by_cases hm : most < (Pl.take (l.drop at_)).1
  ·rw [show tx (l.drop at_) most = ([], [], 2) from by unfold tx; rw [if_neg (by simpa using he), if_pos hm]]
   go_enter Tryz.func140, Tryz.ntmps140
   go_wp2_with fail
   refine (number_ok l at_ p _ hl ha B).mono ?_
   rintro e w1 ⟨rfl, ⟨x, hx1, hx2, B1, hx3⟩, m1⟩
   rw [he]
   clear hx3 he hk3
   go_wp2_with fail
   go_ret2
   exact ⟨rfl, ⟨x, hx1, B1, fun h => by cases h⟩, m1⟩
  ·by_cases hr : (Pl.take (l.drop at_)).2.1.length < (Pl.take (l.drop at_)).1
   ·rw [show tx (l.drop at_) most = ([], [], 20) from by unfold tx; rw [if_neg (by simpa using he), if_neg hm, if_pos hr]]
    go_enter Tryz.func140, Tryz.ntmps140
    go_wp2_with fail
    refine (number_ok l at_ p _ hl ha B).mono ?_
    rintro e w1 ⟨rfl, ⟨x, hx1, hx2, B1, hx3⟩, m1⟩
    rw [he]
    have hx4 : (l.drop x).length = (Pl.take (l.drop at_)).2.1.length := by rw [hx3 he]
    have hx5 : l.length - x = (Pl.take (l.drop at_)).2.1.length := by simpa using hx4
    clear hx3 hx4 he hk3
    have HX := Lib.hid hx5
    clear hx5
    have HL := Lib.hid hlen
    clear hlen
    go_wp2_with fail
    refine (take_no l x _ 0 p _ hl hx1 (by have := HX.out; omega) B1).mono ?_
    rintro e w2 ⟨rfl, B2, m2⟩
    go_wp2_with fail
    go_ret2
    exact ⟨rfl, ⟨x, hx1, B2, fun h => by cases h⟩, m1.trans m2⟩
   ·rw [show tx (l.drop at_) most = ((Pl.take (l.drop at_)).2.1.take (Pl.take (l.drop at_)).1, (Pl.take (l.drop at_)).2.1.drop (Pl.take (l.drop at_)).1, 0) from by unfold tx; rw [if_neg (by simpa using he), if_neg hm, if_neg hr]]
    go_enter Tryz.func140, Tryz.ntmps140
    go_wp2_with fail
    refine (number_ok l at_ p _ hl ha B).mono ?_
    rintro e w1 ⟨rfl, ⟨x, hx1, hx2, B1, hx3⟩, m1⟩
    rw [he]
    have hx4 := hx3 he
    have hx5 : l.length - x = (Pl.take (l.drop at_)).2.1.length := by rw [← hx4]; simp
    clear hx3 he hk3
    have HX := Lib.hid hx5
    have HX4 := Lib.hid hx4
    clear hx5 hx4
    have HL := Lib.hid hlen
    clear hlen
    have hgo : x + (Pl.take (l.drop at_)).1 ≤ l.length := by have := HX.out; omega
    go_wp2_with fail
    refine (take_yes l x _ 0 p _ hl hgo B1).mono ?_
    rintro e w2 ⟨rfl, B2, m2⟩
    go_wp2_with fail
    go_ret2
    refine ⟨ret_two (str_eq (by rw [HX4.out])) rfl, ⟨_, hgo, B2, fun _ => ?_⟩, m1.trans m2⟩
    rw [← List.drop_drop, HX4.out]
 ·rw [show tx (l.drop at_) most = ([], [], (Pl.take (l.drop at_)).2.2) from by unfold tx; rw [if_pos he]]
  have hc2 : ((Pl.take (l.drop at_)).2.2 != 0) = true := by simpa using he
  clear htl
  go_enter Tryz.func140, Tryz.ntmps140
  go_wp2_with fail
  refine (number_ok l at_ p _ hl ha B).mono ?_
  rintro e w1 ⟨rfl, ⟨x, hx1, hx2, B1, hx3⟩, m1⟩
  clear hx3
  go_wp2_with fail
  go_ret2
  exact ⟨rfl, ⟨x, hx1, B1, fun h => absurd h he⟩, m1⟩
theorem rtext_bad (l : Bs) (at_ : Nat) (most c : Int) (hc : c ≠ 0) (p : Nat) (w : World) (B : Blk w p #[.string ⟨List.toArray l⟩, .int .i64 at_, .int .i64 c]) :
  Calls Tryz.prog 140 #[.pointer (some ⟨p, 0, none⟩), .int .i64 most] w fun e w' => e = .returned (.tuple #[.string ⟨List.toArray []⟩, .int .i64 c]) ∧ ∃ n, w' = w.drewN n := by
 have hc2 : (c != 0) = true := by simpa using hc
 go_enter Tryz.func140, Tryz.ntmps140
 go_wp2_with fail
 refine (number_bad l at_ c hc p _ B).mono ?_
 rintro e w1 ⟨rfl, nq, rfl⟩
 go_wp2_with fail
 go_ret2
 exact ⟨rfl, _, rfl⟩
theorem rtext_any (s : Bs) (c most : Int) (p : Nat) (w : World) (R : Rdr w p s c) :
  Calls Tryz.prog 129 #[.pointer (some ⟨p, 0, none⟩), .int .i64 most] w fun e w' => e = .returned (.string ⟨List.toArray ((mText s c most).1)⟩) ∧ Rdr w' p (mText s c most).2.1 (mText s c most).2.2 ∧ Mod [p] w w' := by
 obtain ⟨l, a, h1, h2, rfl, B⟩ := id R
 obtain ⟨b1, b2, b3⟩ := id B
 by_cases hc : c = 0
 ·subst hc
  by_cases he : (tx (l.drop a) most).2.2 = 0
  ·rw [show mText (l.drop a) 0 most = ((tx (l.drop a) most).1, (tx (l.drop a) most).2.1, 0) from by simp [mText, he]]
   go_enter Tryz.func129, Tryz.ntmps129
   go_wp2_with fail
   refine (rtext_in l a most p _ h1 h2 B).mono ?_
   rintro e w1 ⟨rfl, ⟨x, hx1, B1, hx3⟩, m1⟩
   rw [he]
   have HX := Lib.hid (hx3 he)
   clear hx3 he b1 b2 b3
   go_wp2_with fail
   go_ret
   exact ⟨rfl, ⟨l, x, h1, hx1, HX.out, B1⟩, m1⟩
  ·rw [show mText (l.drop a) 0 most = ([], l.drop a, (tx (l.drop a) most).2.2) from by simp [mText, he]]
   go_enter Tryz.func129, Tryz.ntmps129
   go_wp2_with fail
   refine (rtext_in l a most p _ h1 h2 B).mono ?_
   rintro e w1 ⟨rfl, ⟨x, hx1, B1, hx3⟩, m1⟩
   clear hx3 b1 b2 b3
   have hc2 : ((tx (l.drop a) most).2.2 != 0) = true := by simpa using he
   go_wp2_with fail
   refine (refused_yes l x a _ p _ B1).mono ?_
   rintro e w2 ⟨rfl, B2, m2⟩
   go_wp2_with fail
   go_ret
   exact ⟨rfl, ⟨l, a, h1, h2, rfl, B2⟩, m1.trans m2⟩
 ·rw [show mText (l.drop a) c most = ([], l.drop a, c) from by simp [mText, hc]]
  have hc2 : (c != 0) = true := by simpa using hc
  go_enter Tryz.func129, Tryz.ntmps129
  go_wp2_with fail
  refine (rtext_bad l a most c hc p _ B).mono ?_
  rintro e w1 ⟨rfl, nq, rfl⟩
  go_wp2_with fail
  refine (refused_no l a a c c hc p _ (B.drewN nq)).mono ?_
  rintro e w2 ⟨rfl, rfl⟩
  go_wp2_with fail
  go_ret
  exact ⟨rfl, R.drewN nq, (Mod.refl _ _).drewN nq⟩
theorem rend_any (s : Bs) (c : Int) (p : Nat) (w : World) (R : Rdr w p s c) :
  Calls Tryz.prog 110 #[.pointer (some ⟨p, 0, none⟩)] w fun e w' => e = .returned (.int .i64 (mEnd s c)) ∧ Mod [p] w w' := by
 obtain ⟨l, a, h1, h2, rfl, B⟩ := id R
 obtain ⟨b1, b2, b3⟩ := id B
 by_cases hl : a = l.length
 ·rw [show mEnd (l.drop a) c = c from by subst hl; simp [mEnd]]
  have h0 : ¬ (0 : Int) < (l.length : Int) - a := by omega
  have HL := Lib.hid hl
  clear hl
  go_enter Tryz.func110, Tryz.ntmps110
  go_wp2_with fail
  refine (left_any l a c p _ h1 h2 B).mono ?_
  rintro e w1 ⟨rfl, nq, rfl⟩
  go_wp2_with fail
  go_ret
  exact ⟨rfl, (Mod.refl _ _).drewN _⟩
 ·have h0 : (0 : Int) < (l.length : Int) - a := by omega
  have hne : l.drop a ≠ [] := by intro h; have := congrArg List.length h; simp at this; omega
  by_cases hc : c = 0
  ·subst hc
   rw [show mEnd (l.drop a) 0 = 3 from by unfold mEnd; rw [if_pos ⟨rfl, hne⟩]]
   go_enter Tryz.func110, Tryz.ntmps110
   go_wp2_with fail
   refine (left_any l a 0 p _ h1 h2 B).mono ?_
   rintro e w1 ⟨rfl, nq, rfl⟩
   go_wp2_with fail
   refine (refused_yes l a a 3 p _ (B.drewN nq)).mono ?_
   rintro e w2 ⟨rfl, B2, m2⟩
   clear b1 b2 b3
   obtain ⟨b1, b2, b3⟩ := id B2
   go_wp2_with fail
   go_ret
   exact ⟨rfl, ((Mod.refl _ _).drewN nq).trans m2⟩
  ·rw [show mEnd (l.drop a) c = c from by unfold mEnd; rw [if_neg (fun h => hc h.1)]]
   go_enter Tryz.func110, Tryz.ntmps110
   go_wp2_with fail
   refine (left_any l a c p _ h1 h2 B).mono ?_
   rintro e w1 ⟨rfl, nq, rfl⟩
   go_wp2_with fail
   refine (refused_no l a a c 3 hc p _ (B.drewN nq)).mono ?_
   rintro e w2 ⟨rfl, rfl⟩
   go_wp2_with fail
   go_ret
   exact ⟨rfl, (Mod.refl _ _).drewN _⟩
end Go.Proofs.YtjppbomngnomhaaGreatDoor
namespace Go.Proofs.YtjppbomngnomhaaGreatDoor
open Go.RowKit Pl
theorem bs_size (s : Bs) : (⟨s.toArray⟩ : ByteArray).size = s.length := by simp [ByteArray.size]
end Go.Proofs.YtjppbomngnomhaaGreatDoor
namespace Go.Proofs.YtjppbomngnomhaaGreatDoor
namespace Pl
theorem nodup_len : ∀ (l a : List Bs), l.Nodup → (∀ x ∈ l, x ∈ a) → l.length ≤ a.length
 | [], _, _, _ => by simp
 | x :: l, a, hn, h => by
  rw [List.nodup_cons] at hn
  have hx : x ∈ a := h x (by simp)
  have ih := nodup_len l (a.erase x) hn.2 (fun y hy => (List.mem_erase_of_ne (fun e => hn.1 (by rw [← e]; exact hy))).2 (h y (by simp [hy])))
  rw [List.length_erase_of_mem hx] at ih
  have : 0 < a.length := List.length_pos_of_mem hx
  simp only [List.length_cons]
  omega
end Pl
end Go.Proofs.YtjppbomngnomhaaGreatDoor
namespace Go.Proofs.YtjppbomngnomhaaGreatDoor
open Go.RowKit Go.WideMaps Go.Maps Pl
theorem keyedS : Keyed Tryz.prog 9 := string_keyed Tryz.underlying9
theorem zeroI (w : World) : (zeroValue 3).run Tryz.prog w = .ok (.int .i64 0) w := by kernel_rfl
end Go.Proofs.YtjppbomngnomhaaGreatDoor
namespace Go.Proofs.YtjppbomngnomhaaGreatDoor
open Go.RowKit Go.WideMaps Go.Maps Go.Sort Pl
theorem takeSo (l : List Bs) (i : Nat) (hi : i < l.length) : l.take (i + 1) = l.take i ++ [l.getD i []] := by
 rw [List.take_add_one, List.getElem?_eq_getElem hi, List.getD_eq_getElem?_getD, List.getElem?_eq_getElem hi]
 rfl
end Go.Proofs.YtjppbomngnomhaaGreatDoor
namespace Go.Proofs.YtjppbomngnomhaaGreatDoor
open Go.RowKit Go.WideMaps Go.Maps Pl
abbrev Sg := Bs × Bs × Bool
def gv : List Sg → List Value
 | [] => []
 | x :: r => .string ⟨List.toArray x.1⟩ :: .string ⟨List.toArray x.2.1⟩ :: .bool x.2.2 :: gv r
theorem gone : ∀ (l : List Sg), ∀ u ∈ gv l, u.oneCell' = true
 | [], u, h => by simp [gv] at h
 | x :: r, u, h => by
  simp only [gv, List.mem_cons] at h
  rcases h with rfl | rfl | rfl | h
  ·rfl
  ·rfl
  ·rfl
  ·exact gone r u h
theorem ownsMap_at {H : Type} {R : Value → Option (DataW H × List MemPlace)} {W w : World} {t : TypeId} {b n : Nat} {D : DataW H} (h : W.ownsMap Tryz.prog t R b n D) (hb : w.heap[b]? = W.heap[b]?) : w.ownsMap Tryz.prog t R b n D := by
 obtain ⟨es, clock, h1, h2⟩ := h
 exact ⟨es, clock, hb.trans h1, h2⟩
end Go.Proofs.YtjppbomngnomhaaGreatDoor
namespace Go.Proofs.YtjppbomngnomhaaGreatDoor
open Go.RowKit Go.WideMaps Go.Maps Go.Sort Pl
abbrev nilV : Value := .slice none 0 0
def hR (v : Value) : Option (DataW Value × List MemPlace) := some (.held v, [])
theorem hR_inv {v u : Value} {ps : List MemPlace} (h : hR v = some (.held u, ps)) : v = u := by
 unfold hR at h
 injection h with h
 injection h with h _
 injection h
def BTx (w : World) (base : Nat) (v : Value) (t : Bs) : Prop :=
 ∃ g cap c fz, v = .slice (some ⟨g, 0, none⟩) t.length cap ∧ base ≤ g ∧ g < w.heap.size ∧ w.heap[g]? = some (Obj.cells c 5 fz) ∧ ∀ i, i < t.length → w.cell? ⟨g, i, none⟩ = some (.int .u8 ((t.getD i 0).toNat : Int))
theorem BTx.kept {w w' : World} {base : Nat} {v : Value} {t : Bs} (h : BTx w base v t) (hs : w.heap.size ≤ w'.heap.size) (hk : ∀ (g : Nat) c fz, w.heap[g]? = some (Obj.cells c 5 fz) → w'.heap[g]? = w.heap[g]?) : BTx w' base v t := by
 obtain ⟨g, cap, c, fz, h1, h2, h3, h4, h5⟩ := h
 have hg := hk g c fz h4
 exact ⟨g, cap, c, fz, h1, h2, by omega, hg.trans h4, fun i hi => (World.cell?_of_block (a := ⟨g, i, none⟩) hg).trans (h5 i hi)⟩
theorem BTx.conv {w : World} {base : Nat} {v : Value} {t : Bs} (h : BTx w base v t) : (convert 59 9 v).run Tryz.prog w = .ok (.string ⟨List.toArray t⟩) w := by
 obtain ⟨g, cap, c, fz, rfl, h2, h3, h4, h5⟩ := h
 exact conv_str 59 5 9 Tryz.underlying59 Tryz.underlying5 Tryz.underlying9 g 0 t.length cap t rfl (fun i hi => by simpa using h5 i hi)
theorem run_conv_btx (w : World) (s : Bs) (hs : s.length ≤ maxLen) :
  ∃ v w', (convert 9 59 (.string ⟨List.toArray s⟩)).run Tryz.prog w = .ok v w' ∧ BTx w' w.heap.size v s ∧ Below w.heap.size w w' := by
 have hr := Lib.run_convert_string_bytes (P := Tryz.prog) w 9 59 5 ⟨s.toArray⟩ Tryz.underlying9 Tryz.underlying59 Tryz.underlying5
 have hz := bs_size s
 rw [hz] at hr
 refine ⟨_, _, hr, ⟨w.heap.size, _, _, _, rfl, Nat.le_refl _, by rw [Lib.bytesWorld_size]; omega, Lib.bytesWorld_at_new w 5 ⟨s.toArray⟩, fun i hi => Lib.bytesWorld_cell w 5 ⟨s.toArray⟩ i (by rw [hz]; exact hi)⟩, ⟨rfl, rfl, rfl, by rw [Lib.bytesWorld_size]; omega, fun k hk => Lib.bytesWorld_at_old w _ _ k (by omega)⟩⟩
theorem wpList_convT {ops : Array Oper} {o : Oper} {rest : List Oper} {a : Act} {w : World} {Q : Exit → Act → World → Prop} (hgd : o.guard = none) (x : Operand) (ho : o.op = .convert 9 59 x) (s : Bs) (hx : a.eval x = .string ⟨List.toArray s⟩) (hs : s.length ≤ maxLen)
  (h : ∀ v' w', BTx w' w.heap.size v' s → Below w.heap.size w w' → wpList Tryz.prog ops Q rest (a.put o.dst v') w') : wpList Tryz.prog ops Q (o :: rest) a w := by
 refine wpList_plain hgd fun K hK => ?_
 obtain ⟨v, w', hr, h2, h3⟩ := run_conv_btx w s hs
 unfold Oper.wp execOp
 simp only [ho, hx, Sem.run_bind, Sem.run_pure, Result.andThen_ok, hr]
 exact hK _ _ (h v w' h2 h3)
abbrev Ent := Bs × Bs
def keysE (T : List Ent) : List Bs := T.map (·.1)
structure StoD (w : World) (base : Nat) (D : DataW Value) (T : List Ent) : Prop where
 has : ∀ k : Bs, Maps.has D (.string k) = decide (k ∈ keysE T)
 val : ∀ e ∈ T, ∃ v, D.atKey (.string e.1) (.held nilV) = .held v ∧ BTx w base v e.2
 nodup : (keysE T).Nodup
 size : Maps.size D = T.length
structure Sto (w : World) (base p b : Nat) (T : List Ent) : Prop where
 hp : base ≤ p
 hb : base ≤ b
 cell : w.heap[p]? = some (Obj.cells #[.map (some b)] 86)
 lt : p < w.heap.size
 own : ∃ D, w.ownsMap Tryz.prog 9 hR b T.length D ∧ StoD w base D T
def StoK (w : World) (k : Nat) : Prop := (∃ es c, w.heap[k]? = some (Obj.map es c)) ∨ (∃ c fz, w.heap[k]? = some (Obj.cells c 5 fz)) ∨ (∃ c fz, w.heap[k]? = some (Obj.cells c 86 fz))
section
variable {w w' : World} {base p b : Nat} {T : List Ent}
theorem Sto.blk (h : Sto w base p b T) : Blk w p #[.map (some b)] := Blk.of_heap h.cell h.lt
theorem Sto.blt (h : Sto w base p b T) : b < w.heap.size := by
 obtain ⟨D, ho, _⟩ := h.own
 exact ho.lt
theorem StoD.kept {D : DataW Value} (h : StoD w base D T) (hs : w.heap.size ≤ w'.heap.size) (hk : ∀ (g : Nat) c fz, w.heap[g]? = some (Obj.cells c 5 fz) → w'.heap[g]? = w.heap[g]?) : StoD w' base D T :=
 ⟨h.has, fun e he => by obtain ⟨v, h1, h2⟩ := h.val e he; exact ⟨v, h1, h2.kept hs hk⟩, h.nodup, h.size⟩
theorem Sto.kept (h : Sto w base p b T) (hs : w.heap.size ≤ w'.heap.size) (hk : ∀ k, StoK w k → w'.heap[k]? = w.heap[k]?) : Sto w' base p b T := by
 obtain ⟨D, ho, hD⟩ := h.own
 have hp := hk p (.inr (.inr ⟨_, _, h.cell⟩))
 have hb : w'.heap[b]? = w.heap[b]? := by
  obtain ⟨es, c, h1, _⟩ := ho
  exact hk b (.inl ⟨es, c, h1⟩)
 exact ⟨h.hp, h.hb, hp.trans h.cell, by have := h.lt; omega, D, ownsMap_at ho hb, hD.kept hs (fun g c fz hg => hk g (.inr (.inl ⟨c, fz, hg⟩)))⟩
theorem stok_lt {k : Nat} (h : StoK w k) : k < w.heap.size := by
 rcases Nat.lt_or_ge k w.heap.size with hlt | hge
 ·exact hlt
 ·rcases h with ⟨_, _, h⟩ | ⟨_, _, h⟩ | ⟨_, _, h⟩ <;> (rw [Array.getElem?_eq_none hge] at h; cases h)
theorem Sto.keep (h : Sto w base p b T) (hb : Below w.heap.size w w') : Sto w' base p b T :=
 h.kept hb.size (fun k hk => hb.block k (stok_lt hk))
end
def putT (T : List Ent) (t : Bs) : List Ent := if tagP 1 t ∈ keysE T then T else T ++ [(tagP 1 t, t)]
def getT (T : List Ent) (k : Bs) : Option Bs := (T.find? (fun e => e.1 == k)).map (·.2)
theorem get_some {T : List Ent} (hn : (keysE T).Nodup) {e : Ent} (he : e ∈ T) : getT T e.1 = some e.2 := by
 induction T with
 | nil => cases he
 | cons x r ih =>
  unfold keysE at hn
  rw [List.map_cons, List.nodup_cons] at hn
  unfold getT
  rcases List.mem_cons.1 he with rfl | he
  ·simp
  ·have hne : (x.1 == e.1) = false := by
    rw [beq_eq_false_iff_ne]
    intro h
    exact hn.1 (by rw [h]; exact List.mem_map.2 ⟨e, he, rfl⟩)
   rw [List.find?_cons_of_neg (by rw [hne]; simp)]
   exact ih hn.2 he
theorem get_none {T : List Ent} {k : Bs} (h : k ∉ keysE T) : getT T k = none := by
 unfold getT
 rw [List.find?_eq_none.2 (fun x hx => by
  intro e
  exact h (List.mem_map.2 ⟨x, hx, by simpa using e⟩))]
 rfl
theorem keyS (k : Bs) (h : k.length ≤ maxLen) : keyOf Tryz.prog 9 (.string ⟨List.toArray k⟩) = some (.string k) := keyOf_string_mk Tryz.underlying9 (by simpa [ByteArray.size] using h)
theorem isKeyS (k : Bs) : WideAt.IsKeyLit (.string k) := by first | trivial | exact ⟨_, rfl⟩ | simp [WideAt.IsKeyLit]
end Go.Proofs.YtjppbomngnomhaaGreatDoor
namespace Go.Proofs.YtjppbomngnomhaaGreatDoor
open Go.RowKit
def okW (b : Nat → Int) (W : List Int) : Bool := (List.range 64).all fun i => decide (W.getD i 0 = if i < 16 then word4 b i else (W.getD (i - 16) 0 + sg0 (W.getD (i - 15) 0) + W.getD (i - 7) 0 + sg1 (W.getD (i - 2) 0)) % 4294967296)
theorem okW_sch (b : Nat → Int) (W : List Int) (h : okW b W = true) (i : Nat) (hi : i < 64) : sch b i = W.getD i 0 := by
 induction i using Nat.strongRecOn with
 | _ i ih =>
  have h2 := List.all_eq_true.1 h i (by simpa using hi)
  rw [decide_eq_true_iff] at h2
  rw [h2]
  by_cases h16 : i < 16
  ·rw [if_pos h16, sch_lo b i h16]
  ·rw [if_neg h16, sch_hi b i h16, ih (i - 16) (by omega) (by omega), ih (i - 15) (by omega) (by omega), ih (i - 7) (by omega) (by omega), ih (i - 2) (by omega) (by omega)]
def stL (S : List (List Int)) (n : Nat) : Nat → Int := fun j => (S.getD n []).getD j 0
def okR (g : Nat → Int) (W : List Int) (S : List (List Int)) : Bool :=
 (List.range 8).all (fun j => decide (stL S 0 j = g j)) && (List.range 64).all fun n => (List.range 8).all fun j => decide (stL S (n + 1) j = rnd (kc n) (W.getD n 0) (stL S n) j)
theorem rnd_of (k w : Int) (u v : Nat → Int) (h : ∀ j, j < 8 → u j = v j) : ∀ j, j < 8 → rnd k w u j = rnd k w v j := by
 intro j hj
 unfold rnd
 have h0 := h 0 (by omega)
 have h1 := h 1 (by omega)
 have h2 := h 2 (by omega)
 have h3 := h 3 (by omega)
 have h4 := h 4 (by omega)
 have h5 := h 5 (by omega)
 have h6 := h 6 (by omega)
 have h7 := h 7 (by omega)
 split <;> first | rfl | assumption | (simp only [h0, h1, h2, h3, h4, h5, h6, h7])
theorem okR_rds (g b : Nat → Int) (W : List Int) (S : List (List Int)) (hw : okW b W = true) (h : okR g W S = true) : ∀ n, n ≤ 64 → ∀ j, j < 8 → rds g b n j = stL S n j := by
 unfold okR at h
 rw [Bool.and_eq_true] at h
 intro n
 induction n with
 | zero =>
  intro _ j hj
  have := List.all_eq_true.1 h.1 j (by simpa using hj)
  rw [decide_eq_true_iff] at this
  exact this.symm
 | succ n ih =>
  intro hn j hj
  have h2 := List.all_eq_true.1 h.2 n (by simp; omega)
  have h3 := List.all_eq_true.1 h2 j (by simpa using hj)
  rw [decide_eq_true_iff] at h3
  rw [h3, rds, okW_sch b W hw n (by omega)]
  exact rnd_of _ _ _ _ (ih (by omega)) j hj
theorem sum_byte (s : List UInt8) (W : List Int) (S : List (List Int)) (hp : (padP s).length / 64 = 1) (hw : okW (blkB (padP s) 0) W = true) (h : okR firstW W S = true) :
  (sumP s).getD 0 0 = UInt8.ofNat (((stL S 64 0 + firstW 0) % 4294967296 / 16777216 % 256).toNat) := by
 have h1 := okR_rds firstW (blkB (padP s) 0) W S hw h 64 (by omega) 0 (by omega)
 have h2 : (sumP s).getD 0 0 = UInt8.ofNat (byteAt (blkN firstW (padP s) ((padP s).length / 64)) 0).toNat := by simp [sumP, toldP]
 rw [h2, hp]
 show UInt8.ofNat (byteAt (blk firstW (blkB (padP s) 0)) 0).toNat = _
 unfold byteAt blk
 simp only [Nat.zero_div, Nat.zero_mod, if_true]
 rw [h1]
end Go.Proofs.YtjppbomngnomhaaGreatDoor
namespace Go.Proofs.YtjppbomngnomhaaGreatDoor
open Go.RowKit Pl
def four : List (Bs × Int) := [([97], 1), ([98], 1), ([99], 1), ([100], 1)]
end Go.Proofs.YtjppbomngnomhaaGreatDoor
namespace Go.Proofs.YtjppbomngnomhaaGreatDoor
open Go.RowKit Go.WideMaps Go.Maps Pl
theorem heap_setCell {w : World} {g o : Nat} {cur : Array Value} {e : TypeId} {fr : Nat × Nat} {v : Value} (h : w.heap[g]? = some (.cells cur e fr)) : (w.setCell ⟨g, o, none⟩ v).heap[g]? = some (.cells (cur.setIfInBounds o v) e fr) := by
 unfold World.setCell
 simp [Array.getElem?_modify, h]
end Go.Proofs.YtjppbomngnomhaaGreatDoor
namespace Go.Proofs.YtjppbomngnomhaaGreatDoor
open Go.RowKit Go.WideMaps Go.Maps Go.Sort Pl
theorem zeroB (w : World) : (zeroValue 59).run Tryz.prog w = .ok nilV w := by
 have h : (Tryz.prog.info? 59).map (·.zero) = some (some nilV) := by kernel_rfl
 obtain ⟨i, hi, hz⟩ := Option.map_eq_some_iff.1 h
 simp [zeroValue, typeInfo, hi, hz]
section
variable {w : World} {base p b : Nat} {T : List Ent}
theorem mem_keys {T : List Ent} {k : Bs} : k ∈ keysE T ↔ ∃ t, (k, t) ∈ T := by
 unfold keysE
 rw [List.mem_map]
 constructor
 ·rintro ⟨⟨a, t⟩, h, rfl⟩; exact ⟨t, h⟩
 ·rintro ⟨t, h⟩; exact ⟨(k, t), h, rfl⟩
theorem Sto.look (h : Sto w base p b T) (k : Bs) (hk : k.length ≤ maxLen) :
  ∃ v, (Instr.lookup 84 (.map (some b)) (.string ⟨List.toArray k⟩) true).run Tryz.prog w = .ok (.tuple #[v, .bool (decide (k ∈ keysE T))]) w ∧ (∀ t, (k, t) ∈ T → BTx w base v t) ∧ (k ∉ keysE T → v = nilV) := by
 obtain ⟨D, ho, hD⟩ := h.own
 obtain ⟨v, ps, hrun, hv⟩ := ho.look_ok keyedS Tryz.underlying84 (zeroB w) (zd := .held nilV) (zp := []) rfl (keyS k hk)
 rw [hD.has] at hrun
 refine ⟨v, hrun, fun t ht => ?_, fun hn => ?_⟩
 ·obtain ⟨u, h1, h2⟩ := hD.val (k, t) ht
  rw [h1] at hv
  rw [hR_inv hv]
  exact h2
 ·rw [atKey_of_not_has (by rw [hD.has]; simpa using hn)] at hv
  exact hR_inv hv
theorem put_mem {T : List Ent} {t : Bs} (h : tagP 1 t ∈ keysE T) : putT T t = T := if_pos h
theorem put_new {T : List Ent} {t : Bs} (h : tagP 1 t ∉ keysE T) : putT T t = T ++ [(tagP 1 t, t)] := if_neg h
theorem StoD.put {D : DataW Value} (h : StoD w base D T) (hD : Tidy D) (k t : Bs) (v : Value) (hn : k ∉ keysE T) (hv : BTx w base v t) : StoD w base (D.put (.string k) (.held v)) (T ++ [(k, t)]) := by
 refine ⟨fun k' => ?_, fun e he => ?_, ?_, ?_⟩
 ·by_cases e : k' = k
  ·subst e
   rw [has_put_same hD.isMap (isKeyS k')]
   simp [keysE]
  ·rw [has_put_other (by intro h; injection h with h; exact e h), h.has, decide_eq_decide]
   unfold keysE
   rw [List.map_append, List.mem_append]
   simp [e]
 ·rcases List.mem_append.1 he with he | he
  ·obtain ⟨u, h1, h2⟩ := h.val e he
   have hne : e.1 ≠ k := fun h => hn (by rw [← h]; exact mem_keys.2 ⟨e.2, he⟩)
   exact ⟨u, by rw [atKey_put_other (by intro h; injection h with h; exact hne h)]; exact h1, h2⟩
  ·rw [List.mem_singleton] at he
   subst he
   exact ⟨v, by rw [atKey_put_same hD.isMap (isKeyS k)], hv⟩
 ·unfold keysE
  rw [List.map_append, List.nodup_append]
  refine ⟨h.nodup, by simp, fun a ha b hb e => ?_⟩
  simp only [List.map_cons, List.map_nil, List.mem_singleton] at hb
  subst hb e
  exact hn ha
 ·rw [size_put hD, h.has, if_neg (by simpa using hn), h.size, List.length_append]
  rfl
end
theorem snew_any (w : World) :
  Calls Tryz.prog 21 #[] w fun e w' => e = .returned (.pointer (some ⟨w.heap.size + 1, 0, none⟩)) ∧ Sto w' w.heap.size (w.heap.size + 1) w.heap.size [] ∧ Below w.heap.size w w' := by
 have hmm := @run_makeMap Tryz.prog
 have hown : (w.alloc (.map #[] 0)).ownsMap (H := Value) Tryz.prog 9 hR w.heap.size 0 (.map []) := World.ownsMap_made _ _ _ _
 go_enter Tryz.func21, Tryz.ntmps21
 go_wp2_with fail
 go_ret
 refine ⟨rfl, ⟨by omega, Nat.le_refl _, ?_, by simp, _, hown.alloc _, ?_⟩, ?_⟩
 ·have := heap_alloc_new (w.alloc (.map #[] 0)) (.cells #[.map (some w.heap.size)] 86)
  simpa using this
 ·exact ⟨fun k => (by rw [has_eq]; simp [keysE]), fun e he => (by cases he), (by simp [keysE]), rfl⟩
 ·exact Below.allocS ((Below.refl _ _).alloc (Nat.le_refl _) _) _
theorem sput_any (base p b : Nat) (T : List Ent) (t : Bs) (ht : t.length ≤ 1000) (hT : T.length ≤ 100000) (w : World) (hk : KT w) (h : Sto w base p b T) :
  Calls Tryz.prog 37 #[.pointer (some ⟨p, 0, none⟩), .string ⟨List.toArray t⟩] w fun e w' => e = .returned (.string ⟨List.toArray (tagP 1 t)⟩) ∧ Sto w' base p b (putT T t) ∧ w.grownBy w' (some b) := by
 have hds := digsum_ok 1 (by omega) (by omega) t (by omega) w hk
 have hkl : (tagP 1 t).length ≤ maxLen := by rw [tagP_len]; unfold maxLen; omega
 have HP : Hid (tagP 1 t ∈ keysE T → putT T t = T) := Lib.hid put_mem
 have HQ : Hid (tagP 1 t ∉ keysE T → putT T t = T ++ [(tagP 1 t, t)]) := Lib.hid put_new
 have HT := Lib.hid ht
 generalize tagP 1 t = s at *
 generalize putT T t = T' at *
 have HS := Lib.hid h
 clear h ht
 go_enter Tryz.func37, Tryz.ntmps37
 go_wp2_with fail
 refine hds.mono ?_
 rintro e w1 ⟨rfl, hb⟩
 have h1 := HS.out.keep hb
 have hlk := h1.look s hkl
 obtain ⟨v, hrun, hv1, hv2⟩ := hlk
 obtain ⟨b1, b2, b3⟩ := id h1.blk
 by_cases hin : s ∈ keysE T
 ·rw [show decide (s ∈ keysE T) = true from by simpa using hin] at hrun
  clear hv1 hv2
  go_wp2_with fail
  all_goals (go_ret; exact ⟨rfl, by rw [HP.out hin]; exact h1, ⟨hb.os, hb.tape, hb.output, hb.size, fun k hk _ => hb.block k hk⟩⟩)
 ·rw [show decide (s ∈ keysE T) = false from by simpa using hin] at hrun
  obtain rfl := hv2 hin
  clear hv1 hv2
  obtain ⟨D, ho, hD⟩ := h1.own
  have htd := ho.tidy keyedS
  have hblt := ho.lt
  clear h1
  have HB := Lib.hid hb
  clear hb
  go_wp2_with (refine wpList_convT rfl (.tmp 30) rfl t rfl (by have := HT.out; unfold maxLen; omega) ?_; intro u w2 hu hb02; have ho2 := ownsMap_at ho (hb02.block b hblt); obtain ⟨w3, hrun3, ho3, hg3⟩ := ho2.update keyedS Tryz.underlying84 (by unfold maxLen; omega) (keyS s hkl) (show hR u = some (.held u, []) from rfl))
  go_ret
  have hS1 := HS.out.keep HB.out
  have hS2 := hS1.keep hb02
  have hnb : ∀ g c fz, w2.heap[g]? = some (Obj.cells c 5 fz) → some g ≠ some b := by
   intro g c fz hg e
   injection e with e
   subst e
   obtain ⟨es, cl, hm, _⟩ := ho2
   rw [hm] at hg
   cases hg
  have hpb : some p ≠ some b := by
   intro e
   injection e with e
   subst e
   obtain ⟨es, cl, hm, _⟩ := ho2
   have := hS2.cell
   rw [hm] at this
   cases this
  have hD2 : StoD w2 base D T := hD.kept hb02.size (fun g c fz hg => hb02.block g (stok_lt (.inr (.inl ⟨c, fz, hg⟩))))
  have hD3 := (hD2.put htd s t u hin (by
   obtain ⟨g, cap, c, fz, q1, q2, q3⟩ := hu
   exact ⟨g, cap, c, fz, q1, Nat.le_trans (Nat.le_trans HS.out.hp (Nat.le_of_lt HS.out.lt)) (Nat.le_trans HB.out.size q2), q3⟩)).kept hg3.size (fun g c fz hg => hg3.block g (stok_lt (.inr (.inl ⟨c, fz, hg⟩))) (hnb g c fz hg))
  refine ⟨rfl, ?_, ?_⟩
  ·rw [HQ.out hin]
   refine ⟨hS2.hp, hS2.hb, (hg3.block p hS2.lt hpb).trans hS2.cell, by have := hS2.lt; have := hg3.size; omega, _, ?_, hD3⟩
   rw [List.length_append]
   exact ho3
  ·have h1 := HB.out
   refine ⟨hg3.os.trans (hb02.os.trans h1.os), hg3.tape.trans (hb02.tape.trans h1.tape), hg3.output.trans (hb02.output.trans h1.output), Nat.le_trans h1.size (Nat.le_trans hb02.size hg3.size), fun k hk hne => ?_⟩
   rw [hg3.block k (by have := h1.size; have := hb02.size; omega) hne, hb02.block k (by have := h1.size; omega), h1.block k hk]
theorem get_of {T : List Ent} (hn : (keysE T).Nodup) {k t : Bs} (h : (k, t) ∈ T) : getT T k = some t := get_some hn h
theorem Sto.nodup {w : World} {base p b : Nat} {T : List Ent} (h : Sto w base p b T) : (keysE T).Nodup := by
 obtain ⟨D, _, hD⟩ := h.own
 exact hD.nodup
theorem sget_any (base p b : Nat) (T : List Ent) (k : Bs) (hk : k.length ≤ maxLen) (w : World) (h : Sto w base p b T) :
  Calls Tryz.prog 89 #[.pointer (some ⟨p, 0, none⟩), .string ⟨List.toArray k⟩] w fun e w' => e = .returned (.tuple #[.string ⟨List.toArray ((getT T k).getD [])⟩, .bool (decide (k ∈ keysE T))]) ∧ Below w.heap.size w w' := by
 obtain ⟨v, hrun, hv1, hv2⟩ := h.look k hk
 have hconv : (convert 59 9 v).run Tryz.prog w = .ok (.string ⟨List.toArray ((getT T k).getD [])⟩) w := by
  by_cases hin : k ∈ keysE T
  ·obtain ⟨t, ht⟩ := mem_keys.1 hin
   rw [get_of h.nodup ht]
   exact (hv1 t ht).conv
  ·rw [hv2 hin, get_none hin]
   exact run_convert_bytes_nil w 59 5 Tryz.underlying59 Tryz.underlying5 0 0 9 Tryz.underlying9
 generalize decide (k ∈ keysE T) = q at *
 generalize (getT T k).getD [] = s at *
 obtain ⟨b1, b2, b3⟩ := id h.blk
 clear hv1 hv2 h
 go_enter Tryz.func89, Tryz.ntmps89
 go_wp2_with fail
 all_goals (go_ret2; exact ⟨rfl, Below.refl _ _⟩)
end Go.Proofs.YtjppbomngnomhaaGreatDoor
namespace Go.Proofs.YtjppbomngnomhaaGreatDoor
open Go.RowKit Go.WideMaps Go.Maps Go.Sort Go.Shelf Pl
theorem sortsM (m : Nat) : AnyZ.SortsIn Tryz.prog sortedS_ren Fence.wide m :=
 ⟨fun blk off cap ss W hH hblk hsz => callsIn_wide.2 (AnyM.slices_Sort_string sortM blk off cap ss W hH hblk hsz),
  fun p cap W => callsIn_wide.2 (AnyM.slices_Sort_string_none sortM p cap W)⟩
theorem keysB_any (mb : Option Nat) (W : World) : Calls Tryz.prog 55 #[.map mb] W fun e w' => e = .returned (.func (.func 76) #[] #[.pointer (some ⟨W.heap.size, 0, none⟩)]) ∧ w' = W.alloc (.cells #[.map mb] 84) :=
 (callsIn_wide (n := 5)).1 (AnyZ.keys_in keysB Fence.wide 5 trivial rfl mb W)
theorem sortedB_any {H : Type} (b nn : Nat) (D0 : DataW H) (R : Value → Option (DataW H × List MemPlace)) (w : World) (hown : w.ownsMap Tryz.prog 9 R b nn D0) (hmax : Maps.size D0 ≤ 1000000) :
  Calls Tryz.prog 54 #[.func (.func 76) #[] #[.pointer (some ⟨w.heap.size, 0, none⟩)]] (w.alloc (.cells #[.map (some b)] 84)) fun e w' => ∃ v, e = .returned v ∧ SRow w' w.heap.size v ((strKeys D0).mergeSort (fun x y => decide (x ≤ y))) ∧ Below w.heap.size (w.alloc (.cells #[.map (some b)] 84)) w' := by
 have hbl := hown.lt
 have hseq : SeqGives Fence.wide 2 Tryz.prog 76 #[.pointer (some ⟨w.heap.size, 0, none⟩)] encStr (fun ss => ss.Perm (strKeys D0)) (Maps.size D0) (w.alloc (.cells #[.map (some b)] 84)) :=
  AnyZ.keys_gives (ρ := keysB_ren) { keysB with } Fence.wide _ trivial rfl (by omega) w.heap.size b nn D0 _ (by simp) (by simp) (by
   obtain ⟨es, clock, hb, Ft, hs, hD⟩ := hown
   exact ⟨es, clock, (Below.heap_alloc _ _ b hbl).trans hb, Ft, hs, hD⟩)
 have h := (callsIn_wide (n := 5)).1 (AnyZ.sorted_in sortedS Fence.wide 5 trivial trivial trivial trivial rfl (by omega) (sortsM _) (enters_of Tryz.func75 (by kernel_rfl) rfl) 76 #[.pointer (some ⟨w.heap.size, 0, none⟩)] trivial (enters_of Tryz.func76 (by kernel_rfl) rfl) _ _ (by unfold maxLen; omega) (by omega) _ hseq)
 refine h.mono ?_
 rintro e w' ⟨v, ss, rfl, hp, hrow, _, hb⟩
 refine ⟨v, rfl, ?_, hb.mono (by simp)⟩
 rw [mergeSort_of_perm hp] at hrow
 have hl : ss.length = ((strKeys D0).mergeSort (fun x y => decide (x ≤ y))).length := by rw [List.length_mergeSort, hp.length_eq]
 rw [hl] at hrow
 exact SRow.low (show SRow w' _ v _ from hrow) (by simp)
end Go.Proofs.YtjppbomngnomhaaGreatDoor
namespace Go.Proofs.YtjppbomngnomhaaGreatDoor
open Go.RowKit Go.WideMaps Go.Maps Go.Sort Pl
theorem keys_perm {H : Type} {w : World} {R : Value → Option (DataW H × List MemPlace)} {b n : Nat} {D : DataW H} {ss : List Bs} (ho : w.ownsMap Tryz.prog 9 R b n D) (hn : ss.Nodup) (hm : ∀ k : Bs, Maps.has D (.string k) = decide (k ∈ ss)) : ss.Perm (strKeys D) :=
 Collected.perm (left := fun _ => false) ⟨hn, fun x => by simp [hm]⟩ ho keyedS Tryz.underlying9 (fun _ => rfl)
def sortB (l : List Bs) : List Bs := l.mergeSort (fun x y => decide (x ≤ y))
theorem sortB_perm (l : List Bs) : (sortB l).Perm l := List.mergeSort_perm _ _
theorem sortB_of {l m : List Bs} (h : l.Perm m) : sortB l = sortB m := mergeSort_of_perm h
theorem ssums_any (base p b : Nat) (T : List Ent) (hT : T.length ≤ 100000) (w : World) (h : Sto w base p b T) :
  Calls Tryz.prog 36 #[.pointer (some ⟨p, 0, none⟩)] w fun e w' => ∃ v, e = .returned v ∧ SRow w' w.heap.size v (sortB (keysE T)) ∧ Below w.heap.size w w' := by
 obtain ⟨D, ho, hD⟩ := h.own
 have hkb := keysB_any (some b)
 have hso := sortedB_any b _ D hR w ho (by rw [hD.size]; omega)
 have hp : sortB (strKeys D) = sortB (keysE T) := (sortB_of (keys_perm ho hD.nodup hD.has)).symm
 rw [show (strKeys D).mergeSort (fun x y => decide (x ≤ y)) = sortB (keysE T) from hp] at hso
 generalize sortB (keysE T) = L at *
 obtain ⟨b1, b2, b3⟩ := id h.blk
 clear h ho hD hp
 go_enter Tryz.func36, Tryz.ntmps36
 go_wp2_with fail
 refine (hkb _).mono ?_
 rintro e w1 ⟨rfl, rfl⟩
 go_wp2_with fail
 refine hso.mono ?_
 rintro e w2 ⟨v, rfl, hr, hb⟩
 go_wp2_with fail
 go_ret
 exact ⟨v, rfl, hr, (Below.allocS (Below.refl _ _) _).trans hb⟩
end Go.Proofs.YtjppbomngnomhaaGreatDoor
namespace Go.Proofs.YtjppbomngnomhaaGreatDoor
open Go.RowKit Pl
theorem nunpack_nil (w : World) :
  Calls Tryz.prog 130 #[.string ⟨List.toArray []⟩] w fun e w' => e = .returned (.tuple #[.string ⟨List.toArray []⟩, .bool false, .int .i64 3]) ∧ Below w.heap.size w w' := by
 go_enter Tryz.func130, Tryz.ntmps130
 go_wp2_with fail
 go_ret3
 exact ⟨rfl, Below.refl _ _⟩
theorem and1 (k : Nat) (h : k < 256) : bits .and .u8 (k : Int) 1 = ((k % 2 : Nat) : Int) := by
 have h' := u8_and_nat k 1 h (by omega)
 rw [Nat.and_one_is_mod] at h'
 exact h'
theorem and2 (k : Nat) (h : k < 4) : bits .and .u8 (k : Int) 2 = if k < 2 then 0 else 2 := by
 have h' := u8_and_nat k 2 (by omega) (by omega)
 have h3 : ∀ k < 4, k &&& 2 = if k < 2 then 0 else 2 := by decide
 rw [h3 k h] at h'
 rw [show ((2 : Nat) : Int) = 2 from rfl] at h'
 rw [h']
 split <;> rfl
theorem nunpack_cons (c : UInt8) (r : Bs) (hs : r.length ≤ 35184372088000) (w : World) :
  Calls Tryz.prog 130 #[.string ⟨List.toArray (c :: r)⟩] w fun e w' => e = .returned (.tuple #[.string ⟨List.toArray ((unpack (c :: r)).1)⟩, .bool (unpack (c :: r)).2.1, .int .i64 ((unpack (c :: r)).2.2)]) ∧ Below w.heap.size w w' := by
 have hcl := c.toNat_lt
 have h15 := u8_and15 c.toNat hcl
 generalize hk : c.toNat / 16 = k
 generalize hf : c.toNat % 16 = f at h15
 have hck : ((c.toNat : Int) / 16) = (k : Int) := by omega
 have hk16 : k < 16 := by omega
 have h1 := and1 k (by omega)
 have HU : Hid (unpack (c :: r) = if 3 < k ∨ (k % 2 = 0 ∧ f ≠ 0) then ([], false, 3)
  else ((if k % 2 = 1 then UInt8.ofNat f :: ofP r else ofP r), decide (2 ≤ k), 0)) := Lib.hid (by simp only [unpack, hk, hf])
 have hfl : f < 16 := by omega
 clear hk hf
 by_cases h3 : 3 < k
 ·rw [show unpack (c :: r) = ([], false, 3) from by rw [HU.out, if_pos (.inl h3)]]
  have h3' : (3 : Int) < (k : Int) := by omega
  go_enter Tryz.func130, Tryz.ntmps130
  go_wp2_with fail
  go_quiet (fail)
  go_wp2_with fail
  all_goals go_ret3
  all_goals exact ⟨rfl, by (repeat (first | exact Below.refl _ _ | assumption | apply Below.drew | apply below_drewN | apply Below.allocS | (refine Below.setCell ?_ (by simp <;> omega) _) | (refine Below.alloc ?_ (by simp <;> omega) _) | (refine Below.trans ?_ (Below.mono (by assumption) (by simp <;> omega)))))⟩
 have h3' : ¬ (3 : Int) < (k : Int) := by omega
 have h2 := and2 k (by omega)
 have hl := ofP_len r
 by_cases ho : k % 2 = 1
 ·have hcat : ¬ 9223372036854775807 < 1 + (ofP r).length := by omega
  rw [ho] at h1
  have hfn : (f : Int).toNat = f := by omega
  have HL := Lib.hid hl
  clear hl
  by_cases hk2 : k < 2
  ·rw [if_pos hk2] at h2
   rw [show unpack (c :: r) = (UInt8.ofNat f :: ofP r, false, 0) from by
    rw [HU.out, if_neg (by omega), if_pos ho]; simp; omega]
   have HO := Lib.hid ho
   clear ho
   go_enter Tryz.func130, Tryz.ntmps130
   go_wp2_with fail
   go_quiet (fail)
   go_wp2_with fail
   refine (nof_any r (by omega) _).mono ?_
   rintro e w1 ⟨rfl, hb⟩
   go_wp2_with fail
   go_ret3
   exact ⟨rfl, by (repeat (first | exact Below.refl _ _ | assumption | apply Below.drew | apply below_drewN | apply Below.allocS | (refine Below.setCell ?_ (by simp <;> omega) _) | (refine Below.alloc ?_ (by simp <;> omega) _) | (refine Below.trans ?_ (Below.mono (by assumption) (by simp <;> omega)))))⟩
  ·rw [if_neg hk2] at h2
   rw [show unpack (c :: r) = (UInt8.ofNat f :: ofP r, true, 0) from by
    rw [HU.out, if_neg (by omega), if_pos ho]; simp; omega]
   have HO := Lib.hid ho
   clear ho
   go_enter Tryz.func130, Tryz.ntmps130
   go_wp2_with fail
   go_quiet (fail)
   go_wp2_with fail
   refine (nof_any r (by omega) _).mono ?_
   rintro e w1 ⟨rfl, hb⟩
   go_wp2_with fail
   go_ret3
   exact ⟨rfl, by (repeat (first | exact Below.refl _ _ | assumption | apply Below.drew | apply below_drewN | apply Below.allocS | (refine Below.setCell ?_ (by simp <;> omega) _) | (refine Below.alloc ?_ (by simp <;> omega) _) | (refine Below.trans ?_ (Below.mono (by assumption) (by simp <;> omega)))))⟩
 ·have ho' : k % 2 = 0 := by omega
  rw [ho'] at h1
  have HL := Lib.hid hl
  clear hl
  by_cases hf0 : f = 0
  ·subst hf0
   by_cases hk2 : k < 2
   ·rw [if_pos hk2] at h2
    rw [show unpack (c :: r) = (ofP r, false, 0) from by
     rw [HU.out, if_neg (by omega), if_neg ho]; simp; omega]
    clear ho ho'
    go_enter Tryz.func130, Tryz.ntmps130
    go_wp2_with fail
    go_quiet (fail)
    go_wp2_with fail
    refine (nof_any r (by omega) _).mono ?_
    rintro e w1 ⟨rfl, hb⟩
    go_wp2_with fail
    go_ret3
    exact ⟨rfl, by (repeat (first | exact Below.refl _ _ | assumption | apply Below.drew | apply below_drewN | apply Below.allocS | (refine Below.setCell ?_ (by simp <;> omega) _) | (refine Below.alloc ?_ (by simp <;> omega) _) | (refine Below.trans ?_ (Below.mono (by assumption) (by simp <;> omega)))))⟩
   ·rw [if_neg hk2] at h2
    rw [show unpack (c :: r) = (ofP r, true, 0) from by
     rw [HU.out, if_neg (by omega), if_neg ho]; simp; omega]
    clear ho ho'
    go_enter Tryz.func130, Tryz.ntmps130
    go_wp2_with fail
    go_quiet (fail)
    go_wp2_with fail
    refine (nof_any r (by omega) _).mono ?_
    rintro e w1 ⟨rfl, hb⟩
    go_wp2_with fail
    go_ret3
    exact ⟨rfl, by (repeat (first | exact Below.refl _ _ | assumption | apply Below.drew | apply below_drewN | apply Below.allocS | (refine Below.setCell ?_ (by simp <;> omega) _) | (refine Below.alloc ?_ (by simp <;> omega) _) | (refine Below.trans ?_ (Below.mono (by assumption) (by simp <;> omega)))))⟩
  ·rw [show unpack (c :: r) = ([], false, 3) from by rw [HU.out, if_pos (.inr ⟨ho', hf0⟩)]]
   have hf1 : ((f : Int) == 0) = false := by simpa using hf0
   have hf2 : ((f : Int) != 0) = true := by simpa using hf0
   clear ho ho'
   go_enter Tryz.func130, Tryz.ntmps130
   go_wp2_with fail
   go_quiet (fail)
   go_wp2_with fail
   all_goals go_ret3
   all_goals exact ⟨rfl, by (repeat (first | exact Below.refl _ _ | assumption | apply Below.drew | apply below_drewN | apply Below.allocS | (refine Below.setCell ?_ (by simp <;> omega) _) | (refine Below.alloc ?_ (by simp <;> omega) _) | (refine Below.trans ?_ (Below.mono (by assumption) (by simp <;> omega)))))⟩
theorem nunpack_any (s : Bs) (hs : s.length ≤ 35184372088000) (w : World) :
  Calls Tryz.prog 130 #[.string ⟨List.toArray s⟩] w fun e w' => e = .returned (.tuple #[.string ⟨List.toArray ((unpack s).1)⟩, .bool (unpack s).2.1, .int .i64 ((unpack s).2.2)]) ∧ Below w.heap.size w w' := by
 cases s with
 | nil => exact nunpack_nil w
 | cons c r => exact nunpack_cons c r (by simp at hs; omega) w
end Go.Proofs.YtjppbomngnomhaaGreatDoor
