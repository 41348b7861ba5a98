/- SameH, Few, Big, Shelf7. -/
import Derived.Shelf.Strings.Repeat
import Derived.Test.YthgjdaomcpinaaaGreatDoorMp24
set_option linter.unnecessarySimpa false
set_option linter.unusedSimpArgs false
set_option linter.unusedVariables false
set_option maxRecDepth 100000
set_option maxHeartbeats 32000000
namespace Go.Proofs.YthgjdaomcpinaaaGreatDoor
open Go.RowKit Go.Shelf Pl
namespace Pl
def sameHd (a b : Hd) : Bool := decide (a.height = b.height) && decide (a.epoch = b.epoch) && decide (a.view = b.view) && decide (a.last = b.last) && decide (a.parent = b.parent) && decide (a.state = b.state) && decide (a.receipts = b.receipts) && decide (a.txs = b.txs) && decide (a.members = b.members) && decide (a.next = b.next) && sameL a.skips b.skips
def sameTr (a b : Tr) : Bool := sameHd a.head b.head && decide (a.set = b.set) && decide (a.at_ = b.at_)
end Pl
theorem samehead_any (x1 x2 x3 : Int) (xb : Bool) (xp xs xr xt xm xn : Bs) (X : List Bs) (y1 y2 y3 : Int) (yb : Bool) (yp ys yr yt ym yn : Bs) (Y : List Bs) (u v : Value) (w : World) (hu : SS w u X) (hv : SS w v Y) :
  Calls Tryz.prog 63 #[.agg #[.int .i64 x1, .int .i64 x2, .int .i64 x3, .bool xb, .string ⟨List.toArray xp⟩, .string ⟨List.toArray xs⟩, .string ⟨List.toArray xr⟩, .string ⟨List.toArray xt⟩, .string ⟨List.toArray xm⟩, .string ⟨List.toArray xn⟩, u], .agg #[.int .i64 y1, .int .i64 y2, .int .i64 y3, .bool yb, .string ⟨List.toArray yp⟩, .string ⟨List.toArray ys⟩, .string ⟨List.toArray yr⟩, .string ⟨List.toArray yt⟩, .string ⟨List.toArray ym⟩, .string ⟨List.toArray yn⟩, v]] w fun e w' => e = .returned (.bool (sameHd ⟨x1, x2, x3, xb, xp, xs, xr, xt, xm, xn, X⟩ ⟨y1, y2, y3, yb, yp, ys, yr, yt, ym, yn, Y⟩)) ∧ Below w.heap.size w w' := by
 have B0 : Blk (w.alloc (.cells #[.int .i64 x1, .int .i64 x2, .int .i64 x3, .bool xb, .string ⟨List.toArray xp⟩, .string ⟨List.toArray xs⟩, .string ⟨List.toArray xr⟩, .string ⟨List.toArray xt⟩, .string ⟨List.toArray xm⟩, .string ⟨List.toArray xn⟩, u] 24)) w.heap.size #[.int .i64 x1, .int .i64 x2, .int .i64 x3, .bool xb, .string ⟨List.toArray xp⟩, .string ⟨List.toArray xs⟩, .string ⟨List.toArray xr⟩, .string ⟨List.toArray xt⟩, .string ⟨List.toArray xm⟩, .string ⟨List.toArray xn⟩, u] := Blk.new _ _ _
 have hb0 : Below w.heap.size w (w.alloc (.cells #[.int .i64 x1, .int .i64 x2, .int .i64 x3, .bool xb, .string ⟨List.toArray xp⟩, .string ⟨List.toArray xs⟩, .string ⟨List.toArray xr⟩, .string ⟨List.toArray xt⟩, .string ⟨List.toArray xm⟩, .string ⟨List.toArray xn⟩, u] 24)) := Below.allocS (Below.refl _ _) _
 have B1 := B0.alloc (.cells #[.int .i64 y1, .int .i64 y2, .int .i64 y3, .bool yb, .string ⟨List.toArray yp⟩, .string ⟨List.toArray ys⟩, .string ⟨List.toArray yr⟩, .string ⟨List.toArray yt⟩, .string ⟨List.toArray ym⟩, .string ⟨List.toArray yn⟩, v] 24)
 have hb1 := Below.allocS hb0 (.cells #[.int .i64 y1, .int .i64 y2, .int .i64 y3, .bool yb, .string ⟨List.toArray yp⟩, .string ⟨List.toArray ys⟩, .string ⟨List.toArray yr⟩, .string ⟨List.toArray yt⟩, .string ⟨List.toArray ym⟩, .string ⟨List.toArray yn⟩, v] 24)
 have C1 : Blk ((w.alloc (.cells #[.int .i64 x1, .int .i64 x2, .int .i64 x3, .bool xb, .string ⟨List.toArray xp⟩, .string ⟨List.toArray xs⟩, .string ⟨List.toArray xr⟩, .string ⟨List.toArray xt⟩, .string ⟨List.toArray xm⟩, .string ⟨List.toArray xn⟩, u] 24)).alloc (.cells #[.int .i64 y1, .int .i64 y2, .int .i64 y3, .bool yb, .string ⟨List.toArray yp⟩, .string ⟨List.toArray ys⟩, .string ⟨List.toArray yr⟩, .string ⟨List.toArray yt⟩, .string ⟨List.toArray ym⟩, .string ⟨List.toArray yn⟩, v] 24)) (w.heap.size + 1) #[.int .i64 y1, .int .i64 y2, .int .i64 y3, .bool yb, .string ⟨List.toArray yp⟩, .string ⟨List.toArray ys⟩, .string ⟨List.toArray yr⟩, .string ⟨List.toArray yt⟩, .string ⟨List.toArray ym⟩, .string ⟨List.toArray yn⟩, v] := Blk.new' (by simp)
 have q := fun W (hb : Below w.heap.size w W) => sametexts_any u v X Y W (hu.keep hb) (hv.keep hb)
 generalize hr : sameHd ⟨x1, x2, x3, xb, xp, xs, xr, xt, xm, xn, X⟩ ⟨y1, y2, y3, yb, yp, ys, yr, yt, ym, yn, Y⟩ = r
 have HR := Lib.hid hr
 clear hr
 by_cases e1 : x1 = y1
 case neg =>
  have HZ : Hid (r = false) := Lib.hid (by rw [← HR.out]; simp [sameHd, e1])
  clear HR q
  have e2 : (x1 == y1) = false := by simpa using e1
  have e3 : (x1 != y1) = true := by simpa using e1
  have e4 : decide (x1 = y1) = false := by simpa using e1
  have e5 : (!decide (x1 = y1)) = true := by simpa using e1
  obtain ⟨b1, b2, b3⟩ := id B1
  obtain ⟨c1, c2, c3⟩ := id C1
  clear e1 B1 C1
  go_enter Tryz.func63, Tryz.ntmps63
  go_wp2_with fail
  go_ret
  exact ⟨by rw [HZ.out]; rfl, hb1⟩
 subst e1
 by_cases e2 : x2 = y2
 case neg =>
  have HZ : Hid (r = false) := Lib.hid (by rw [← HR.out]; simp [sameHd, e2])
  clear HR q
  have e2 : (x2 == y2) = false := by simpa using e2
  have e3 : (x2 != y2) = true := by simpa using e2
  have e4 : decide (x2 = y2) = false := by simpa using e2
  have e5 : (!decide (x2 = y2)) = true := by simpa using e2
  obtain ⟨b1, b2, b3⟩ := id B1
  obtain ⟨c1, c2, c3⟩ := id C1
  clear e2 B1 C1
  go_enter Tryz.func63, Tryz.ntmps63
  go_wp2_with fail
  go_ret
  exact ⟨by rw [HZ.out]; rfl, hb1⟩
 subst e2
 by_cases e3 : x3 = y3
 case neg =>
  have HZ : Hid (r = false) := Lib.hid (by rw [← HR.out]; simp [sameHd, e3])
  clear HR q
  have e2 : (x3 == y3) = false := by simpa using e3
  have e3 : (x3 != y3) = true := by simpa using e3
  have e4 : decide (x3 = y3) = false := by simpa using e3
  have e5 : (!decide (x3 = y3)) = true := by simpa using e3
  obtain ⟨b1, b2, b3⟩ := id B1
  obtain ⟨c1, c2, c3⟩ := id C1
  clear e3 B1 C1
  go_enter Tryz.func63, Tryz.ntmps63
  go_wp2_with fail
  go_ret
  exact ⟨by rw [HZ.out]; rfl, hb1⟩
 subst e3
 by_cases eb : xb = yb
 case neg =>
  have HZ : Hid (r = false) := Lib.hid (by rw [← HR.out]; simp [sameHd, eb])
  clear HR q
  have e2 : (xb == yb) = false := by simpa using eb
  have e3 : (xb != yb) = true := by simpa using eb
  have e4 : decide (xb = yb) = false := by simpa using eb
  have e5 : (!decide (xb = yb)) = true := by simpa using eb
  obtain ⟨b1, b2, b3⟩ := id B1
  obtain ⟨c1, c2, c3⟩ := id C1
  clear eb B1 C1
  go_enter Tryz.func63, Tryz.ntmps63
  go_wp2_with fail
  go_ret
  exact ⟨by rw [HZ.out]; rfl, hb1⟩
 subst eb
 by_cases ep : xp = yp
 case neg =>
  have HZ : Hid (r = false) := Lib.hid (by rw [← HR.out]; simp [sameHd, ep])
  clear HR q
  have e2 : (xp == yp) = false := by simpa using ep
  have e3 : (xp != yp) = true := by simpa using ep
  have e4 : decide (xp = yp) = false := by simpa using ep
  have e5 : (!decide (xp = yp)) = true := by simpa using ep
  obtain ⟨b1, b2, b3⟩ := id B1
  obtain ⟨c1, c2, c3⟩ := id C1
  clear ep B1 C1
  go_enter Tryz.func63, Tryz.ntmps63
  go_wp2_with fail
  go_ret
  exact ⟨by rw [HZ.out]; rfl, hb1⟩
 subst ep
 by_cases es : xs = ys
 case neg =>
  have HZ : Hid (r = false) := Lib.hid (by rw [← HR.out]; simp [sameHd, es])
  clear HR q
  have e2 : (xs == ys) = false := by simpa using es
  have e3 : (xs != ys) = true := by simpa using es
  have e4 : decide (xs = ys) = false := by simpa using es
  have e5 : (!decide (xs = ys)) = true := by simpa using es
  obtain ⟨b1, b2, b3⟩ := id B1
  obtain ⟨c1, c2, c3⟩ := id C1
  clear es B1 C1
  go_enter Tryz.func63, Tryz.ntmps63
  go_wp2_with fail
  go_ret
  exact ⟨by rw [HZ.out]; rfl, hb1⟩
 subst es
 by_cases er : xr = yr
 case neg =>
  have HZ : Hid (r = false) := Lib.hid (by rw [← HR.out]; simp [sameHd, er])
  clear HR q
  have e2 : (xr == yr) = false := by simpa using er
  have e3 : (xr != yr) = true := by simpa using er
  have e4 : decide (xr = yr) = false := by simpa using er
  have e5 : (!decide (xr = yr)) = true := by simpa using er
  obtain ⟨b1, b2, b3⟩ := id B1
  obtain ⟨c1, c2, c3⟩ := id C1
  clear er B1 C1
  go_enter Tryz.func63, Tryz.ntmps63
  go_wp2_with fail
  go_ret
  exact ⟨by rw [HZ.out]; rfl, hb1⟩
 subst er
 by_cases et : xt = yt
 case neg =>
  have HZ : Hid (r = false) := Lib.hid (by rw [← HR.out]; simp [sameHd, et])
  clear HR q
  have e2 : (xt == yt) = false := by simpa using et
  have e3 : (xt != yt) = true := by simpa using et
  have e4 : decide (xt = yt) = false := by simpa using et
  have e5 : (!decide (xt = yt)) = true := by simpa using et
  obtain ⟨b1, b2, b3⟩ := id B1
  obtain ⟨c1, c2, c3⟩ := id C1
  clear et B1 C1
  go_enter Tryz.func63, Tryz.ntmps63
  go_wp2_with fail
  go_ret
  exact ⟨by rw [HZ.out]; rfl, hb1⟩
 subst et
 by_cases em : xm = ym
 case neg =>
  have HZ : Hid (r = false) := Lib.hid (by rw [← HR.out]; simp [sameHd, em])
  clear HR q
  have e2 : (xm == ym) = false := by simpa using em
  have e3 : (xm != ym) = true := by simpa using em
  have e4 : decide (xm = ym) = false := by simpa using em
  have e5 : (!decide (xm = ym)) = true := by simpa using em
  obtain ⟨b1, b2, b3⟩ := id B1
  obtain ⟨c1, c2, c3⟩ := id C1
  clear em B1 C1
  go_enter Tryz.func63, Tryz.ntmps63
  go_wp2_with fail
  go_ret
  exact ⟨by rw [HZ.out]; rfl, hb1⟩
 subst em
 by_cases en : xn = yn
 case neg =>
  have HZ : Hid (r = false) := Lib.hid (by rw [← HR.out]; simp [sameHd, en])
  clear HR q
  have e2 : (xn == yn) = false := by simpa using en
  have e3 : (xn != yn) = true := by simpa using en
  have e4 : decide (xn = yn) = false := by simpa using en
  have e5 : (!decide (xn = yn)) = true := by simpa using en
  obtain ⟨b1, b2, b3⟩ := id B1
  obtain ⟨c1, c2, c3⟩ := id C1
  clear en B1 C1
  go_enter Tryz.func63, Tryz.ntmps63
  go_wp2_with fail
  go_ret
  exact ⟨by rw [HZ.out]; rfl, hb1⟩
 subst en
 have HZ : Hid (r = sameL X Y) := Lib.hid (by rw [← HR.out]; simp [sameHd])
 clear HR
 obtain ⟨b1, b2, b3⟩ := id B1
 obtain ⟨c1, c2, c3⟩ := id C1
 go_enter Tryz.func63, Tryz.ntmps63
 go_wp2_with fail
 refine (q _ hb1).mono ?_
 rintro e w' ⟨rfl, k, rfl⟩
 go_wp2_with fail
 go_ret
 exact ⟨by rw [HZ.out]; rfl, below_drewN hb1 _⟩
theorem sametr_any (u v : Value) (t r : Tr) (w : World) (hu : TV w u t) (hv : TV w v r) :
  Calls Tryz.prog 14 #[u, v] w fun e w' => e = .returned (.bool (sameTr t r)) ∧ Below w.heap.size w w' := by
 obtain ⟨⟨x1, x2, x3, xb, xp, xs, xr, xt, xm, xn, X⟩, L, ta⟩ := t
 obtain ⟨⟨y1, y2, y3, yb, yp, ys, yr, yt, ym, yn, Y⟩, L2, tb⟩ := r
 obtain ⟨sk, ms, rfl, h1, h2⟩ := hu
 obtain ⟨sk2, ms2, rfl, h3, h4⟩ := hv
 simp only at h1 h2 h3 h4 ⊢
 have B0 : Blk (w.alloc (.cells #[.int .i64 x1, .int .i64 x2, .int .i64 x3, .bool xb, .string ⟨List.toArray xp⟩, .string ⟨List.toArray xs⟩, .string ⟨List.toArray xr⟩, .string ⟨List.toArray xt⟩, .string ⟨List.toArray xm⟩, .string ⟨List.toArray xn⟩, sk, ms, .int .i64 ta] 27)) w.heap.size #[.int .i64 x1, .int .i64 x2, .int .i64 x3, .bool xb, .string ⟨List.toArray xp⟩, .string ⟨List.toArray xs⟩, .string ⟨List.toArray xr⟩, .string ⟨List.toArray xt⟩, .string ⟨List.toArray xm⟩, .string ⟨List.toArray xn⟩, sk, ms, .int .i64 ta] := Blk.new _ _ _
 have hb0 : Below w.heap.size w (w.alloc (.cells #[.int .i64 x1, .int .i64 x2, .int .i64 x3, .bool xb, .string ⟨List.toArray xp⟩, .string ⟨List.toArray xs⟩, .string ⟨List.toArray xr⟩, .string ⟨List.toArray xt⟩, .string ⟨List.toArray xm⟩, .string ⟨List.toArray xn⟩, sk, ms, .int .i64 ta] 27)) := Below.allocS (Below.refl _ _) _
 have B1 := B0.alloc (.cells #[.int .i64 y1, .int .i64 y2, .int .i64 y3, .bool yb, .string ⟨List.toArray yp⟩, .string ⟨List.toArray ys⟩, .string ⟨List.toArray yr⟩, .string ⟨List.toArray yt⟩, .string ⟨List.toArray ym⟩, .string ⟨List.toArray yn⟩, sk2, ms2, .int .i64 tb] 27)
 have hb1 := Below.allocS hb0 (.cells #[.int .i64 y1, .int .i64 y2, .int .i64 y3, .bool yb, .string ⟨List.toArray yp⟩, .string ⟨List.toArray ys⟩, .string ⟨List.toArray yr⟩, .string ⟨List.toArray yt⟩, .string ⟨List.toArray ym⟩, .string ⟨List.toArray yn⟩, sk2, ms2, .int .i64 tb] 27)
 have C1 : Blk ((w.alloc (.cells #[.int .i64 x1, .int .i64 x2, .int .i64 x3, .bool xb, .string ⟨List.toArray xp⟩, .string ⟨List.toArray xs⟩, .string ⟨List.toArray xr⟩, .string ⟨List.toArray xt⟩, .string ⟨List.toArray xm⟩, .string ⟨List.toArray xn⟩, sk, ms, .int .i64 ta] 27)).alloc (.cells #[.int .i64 y1, .int .i64 y2, .int .i64 y3, .bool yb, .string ⟨List.toArray yp⟩, .string ⟨List.toArray ys⟩, .string ⟨List.toArray yr⟩, .string ⟨List.toArray yt⟩, .string ⟨List.toArray ym⟩, .string ⟨List.toArray yn⟩, sk2, ms2, .int .i64 tb] 27)) (w.heap.size + 1) #[.int .i64 y1, .int .i64 y2, .int .i64 y3, .bool yb, .string ⟨List.toArray yp⟩, .string ⟨List.toArray ys⟩, .string ⟨List.toArray yr⟩, .string ⟨List.toArray yt⟩, .string ⟨List.toArray ym⟩, .string ⟨List.toArray yn⟩, sk2, ms2, .int .i64 tb] := Blk.new' (by simp)
 have q1 := samehead_any x1 x2 x3 xb xp xs xr xt xm xn X y1 y2 y3 yb yp ys yr yt ym yn Y sk sk2 _ (h1.keep hb1) (h3.keep hb1)
 have q2 := fun W (hb : Below w.heap.size w W) => samemembers_any ms ms2 L L2 W (h2.keep hb) (h4.keep hb)
 rw [show sameTr ⟨⟨x1, x2, x3, xb, xp, xs, xr, xt, xm, xn, X⟩, L, ta⟩ ⟨⟨y1, y2, y3, yb, yp, ys, yr, yt, ym, yn, Y⟩, L2, tb⟩ = (sameHd ⟨x1, x2, x3, xb, xp, xs, xr, xt, xm, xn, X⟩ ⟨y1, y2, y3, yb, yp, ys, yr, yt, ym, yn, Y⟩ && decide (L = L2) && decide (ta = tb)) from rfl]
 generalize sameHd ⟨x1, x2, x3, xb, xp, xs, xr, xt, xm, xn, X⟩ ⟨y1, y2, y3, yb, yp, ys, yr, yt, ym, yn, Y⟩ = s1 at *
 generalize decide (L = L2) = s2 at *
 obtain ⟨b1, b2, b3⟩ := id B1
 obtain ⟨c1, c2, c3⟩ := id C1
 cases s1
 ·go_enter Tryz.func14, Tryz.ntmps14
  go_wp2_with fail
  refine q1.mono ?_
  rintro e w1 ⟨rfl, hb⟩
  have B2 := B1.keep hb
  have C2 := C1.keep hb
  have hb2 := hb1.trans (hb.mono hb1.size)
  clear q1 q2 b1 b2 b3 c1 c2 c3 hb B0 hb0 B1 C1
  obtain ⟨b1, b2, b3⟩ := id B2
  obtain ⟨c1, c2, c3⟩ := id C2
  go_wp2_with fail
  go_ret
  exact ⟨rfl, hb2⟩
 ·cases s2
  ·go_enter Tryz.func14, Tryz.ntmps14
   go_wp2_with fail
   refine q1.mono ?_
   rintro e w1 ⟨rfl, hb⟩
   have B2 := B1.keep hb
   have C2 := C1.keep hb
   have hb2 := hb1.trans (hb.mono hb1.size)
   have q2 := q2 _ hb2
   clear q1 b1 b2 b3 c1 c2 c3 hb B0 hb0 B1 C1
   obtain ⟨b1, b2, b3⟩ := id B2
   obtain ⟨c1, c2, c3⟩ := id C2
   go_wp2_with fail
   refine q2.mono ?_
   rintro e w2 ⟨rfl, k, rfl⟩
   go_wp2_with fail
   go_ret
   exact ⟨rfl, below_drewN hb2 _⟩
  ·go_enter Tryz.func14, Tryz.ntmps14
   go_wp2_with fail
   refine q1.mono ?_
   rintro e w1 ⟨rfl, hb⟩
   have B2 := B1.keep hb
   have C2 := C1.keep hb
   have hb2 := hb1.trans (hb.mono hb1.size)
   have q2 := q2 _ hb2
   clear q1 b1 b2 b3 c1 c2 c3 hb B0 hb0 B1 C1
   obtain ⟨b1, b2, b3⟩ := id B2
   obtain ⟨c1, c2, c3⟩ := id C2
   go_wp2_with fail
   refine q2.mono ?_
   rintro e w2 ⟨rfl, k, rfl⟩
   clear b1 b2 b3 c1 c2 c3
   obtain ⟨b1, b2, b3⟩ := id (B2.drewN k)
   obtain ⟨c1, c2, c3⟩ := id (C2.drewN k)
   go_wp2_with fail
   go_ret
   exact ⟨by first | rfl | (exact ret_bool (by simp)), below_drewN hb2 _⟩
end Go.Proofs.YthgjdaomcpinaaaGreatDoor
namespace Go.Proofs.YthgjdaomcpinaaaGreatDoor
open Go.RowKit Pl
namespace Pl
def fewA (each : Int) (l : List Bs) : Bool := l.all fun x => decide ((x.length : Int) ≤ each)
def fewP (l : List Bs) (n each : Int) : Bool := decide ((l.length : Int) ≤ n) && fewA each l
theorem fewA_drop (each : Int) (l : List Bs) (i : Nat) (hi : i < l.length) : fewA each (l.drop i) = (decide (((l.getD i []).length : Int) ≤ each) && fewA each (l.drop (i + 1))) := by
 rw [dropS l i hi]
 rfl
end Pl
theorem few_any (v : Value) (l : List Bs) (n each : Int) (w : World) (hv : SS w v l) :
  Calls Tryz.prog 46 #[v, .int .i64 n, .int .i64 each] w fun e w' => e = .returned (.bool (fewP l n each)) ∧ Below w.heap.size w w' := by
 generalize hr : fewP l n each = r
 have HR := Lib.hid hr
 clear hr
 obtain ⟨a, c, rfl⟩ := hv.form
 have HV := Lib.hid hv
 have hm := hv.small
 clear hv
 by_cases hn : n < (l.length : Int)
 ·have hd : decide (n < (l.length : Int)) = true := by simpa using hn
  have HZ : Hid (false = r) := Lib.hid (by rw [← HR.out]; have : ¬ (l.length : Int) ≤ n := (by omega); simp [fewP, this])
  go_enter Tryz.func46, Tryz.ntmps46
  go_wp2_with fail
  all_goals (go_ret; exact ⟨by rw [← HZ.out]; rfl, Below.refl _ _⟩)
 ·have hd : decide (n < (l.length : Int)) = false := by simpa using hn
  have HZ : Hid (fewA each l = r) := Lib.hid (by rw [← HR.out]; have : (l.length : Int) ≤ n := (by omega); simp [fewP, this])
  clear HR
  go_enter Tryz.func46, Tryz.ntmps46
  go_wp2_with fail
  go_loopw [7] (fun s7 wr => ∃ i : Nat, i ≤ l.length ∧ s7 = .int .i64 i ∧ Hid (fewA each (l.drop i) = r) ∧ Below w.heap.size w wr) (fun s7 _ => l.length - (intOf s7).toNat)
  case atStart => exact ⟨0, by omega, rfl, Lib.hid HZ.out, Below.refl _ _⟩
  case round =>
   obtain ⟨i, hi, rfl, HI, hb⟩ := hrel
   obtain ⟨wq, h⟩ := Below.nm hb
   subst h
   by_cases hlt : i < l.length
   ·have hlt' : (i : Int) < (l.length : Int) := by omega
    obtain ⟨g, off, rfl, c1⟩ := (HV.out.keep hb).at i hlt
    have hi2 := HI.out
    rw [fewA_drop each l i hlt] at hi2
    generalize hx : l.getD i [] = x at *
    have HX := Lib.hid hx
    clear hx
    by_cases hle : each < (x.length : Int)
    ·have hd2 : decide (each < (x.length : Int)) = true := by simpa using hle
     have HQ : Hid (false = r) := Lib.hid (by rw [← hi2]; have : ¬ (x.length : Int) ≤ each := (by omega); simp [this])
     clear HI hi2 HZ
     go_wp2_with fail
     all_goals (go_ret; exact ⟨by rw [← HQ.out]; rfl, hb⟩)
    ·have hd2 : decide (each < (x.length : Int)) = false := by simpa using hle
     have HQ : Hid (fewA each (l.drop (i + 1)) = r) := Lib.hid (by rw [← hi2]; have : (x.length : Int) ≤ each := (by omega); simp [this])
     clear HI hi2 HZ
     go_wp2_with fail
     exact ⟨⟨i + 1, by omega, by go_num, HQ, hb⟩, by simp [intOf]; omega⟩
   ·obtain rfl : i = l.length := by omega
    have hlt' : ¬ (l.length : Int) < (l.length : Int) := by omega
    have HQ : Hid (true = r) := Lib.hid (by rw [← HI.out]; simp [fewA])
    clear HI HZ
    go_wp2_with fail
    all_goals (go_ret; exact ⟨by rw [← HQ.out]; rfl, hb⟩)
end Go.Proofs.YthgjdaomcpinaaaGreatDoor
namespace Go.Proofs.YthgjdaomcpinaaaGreatDoor
open Go.RowKit Go.Shelf Pl
namespace Pl
def overS (s : Bs) : Bool := decide ((100 : Int) < (s.length : Int))
def bigT (t : Tr) : Bool := !fewP t.head.skips 40 100 || overS t.head.parent || overS t.head.state || overS t.head.receipts || overS t.head.txs || overS t.head.members || overS t.head.next || decide ((100 : Int) < (t.set.length : Int))
end Pl
theorem big_any (u : Value) (t : Tr) (w : World) (hu : TV w u t) :
  Calls Tryz.prog 8 #[u] w fun e w' => e = .returned (.bool (bigT t)) ∧ Below w.heap.size w w' := by
 obtain ⟨⟨a1, a2, a3, lb, pa, st, rc, tx, me, ne, K⟩, L, ta⟩ := t
 obtain ⟨sk, ms, rfl, h1, h2⟩ := hu
 simp only at h1 h2 ⊢
 obtain ⟨ka, kc, rfl⟩ := h1.form
 obtain ⟨ma, mc, rfl⟩ := h2.form
 have B0 : Blk (w.alloc (.cells #[.int .i64 a1, .int .i64 a2, .int .i64 a3, .bool lb, .string ⟨List.toArray pa⟩, .string ⟨List.toArray st⟩, .string ⟨List.toArray rc⟩, .string ⟨List.toArray tx⟩, .string ⟨List.toArray me⟩, .string ⟨List.toArray ne⟩, .slice ka K.length kc, .slice ma L.length mc, .int .i64 ta] 27)) w.heap.size #[.int .i64 a1, .int .i64 a2, .int .i64 a3, .bool lb, .string ⟨List.toArray pa⟩, .string ⟨List.toArray st⟩, .string ⟨List.toArray rc⟩, .string ⟨List.toArray tx⟩, .string ⟨List.toArray me⟩, .string ⟨List.toArray ne⟩, .slice ka K.length kc, .slice ma L.length mc, .int .i64 ta] := Blk.new _ _ _
 have hb0 : Below w.heap.size w (w.alloc (.cells #[.int .i64 a1, .int .i64 a2, .int .i64 a3, .bool lb, .string ⟨List.toArray pa⟩, .string ⟨List.toArray st⟩, .string ⟨List.toArray rc⟩, .string ⟨List.toArray tx⟩, .string ⟨List.toArray me⟩, .string ⟨List.toArray ne⟩, .slice ka K.length kc, .slice ma L.length mc, .int .i64 ta] 27)) := Below.allocS (Below.refl _ _) _
 have B1 := B0.alloc (.cells #[.int .i64 0, .int .i64 0, .int .i64 0, .bool false, .string ⟨List.toArray []⟩, .string ⟨List.toArray []⟩, .string ⟨List.toArray []⟩, .string ⟨List.toArray []⟩, .string ⟨List.toArray []⟩, .string ⟨List.toArray []⟩, .slice none 0 0] 24)
 have hb1 := Below.allocS hb0 (.cells #[.int .i64 0, .int .i64 0, .int .i64 0, .bool false, .string ⟨List.toArray []⟩, .string ⟨List.toArray []⟩, .string ⟨List.toArray []⟩, .string ⟨List.toArray []⟩, .string ⟨List.toArray []⟩, .string ⟨List.toArray []⟩, .slice none 0 0] 24)
 have q := fun W (hb : Below w.heap.size w W) => few_any _ K 40 100 W (h1.keep hb)
 have hl2 := h2.small
 generalize hr : bigT ⟨⟨a1, a2, a3, lb, pa, st, rc, tx, me, ne, K⟩, L, ta⟩ = r
 have HR := Lib.hid hr
 clear hr
 generalize hf : fewP K 40 100 = f at q
 have HF := Lib.hid hf
 clear hf
 obtain ⟨b1, b2, b3⟩ := id B0
 go_enter Tryz.func8, Tryz.ntmps8
 go_wp2_with (first | (refine wpList_rowStore row_head rfl rfl (.tmp 3) (.tmp 5) rfl rfl rfl (vs := [.int .i64 a1, .int .i64 a2, .int .i64 a3, .bool lb, .string ⟨List.toArray pa⟩, .string ⟨List.toArray st⟩, .string ⟨List.toArray rc⟩, .string ⟨List.toArray tx⟩, .string ⟨List.toArray me⟩, .string ⟨List.toArray ne⟩, .slice ka K.length kc]) rfl (by simp [Value.oneCell']) (us := [.int .i64 0, .int .i64 0, .int .i64 0, .bool false, .string ⟨List.toArray []⟩, .string ⟨List.toArray []⟩, .string ⟨List.toArray []⟩, .string ⟨List.toArray []⟩, .string ⟨List.toArray []⟩, .string ⟨List.toArray []⟩, .slice none 0 0]) rfl (Blk.new' (by simp)) ?_; intro w2 N2 m2; obtain ⟨c1, c2, c3⟩ := id N2))
 have B2 := B1.mod m2 (by simp)
 have hb2 := Below.mod hb1 m2 hb1.size (by simp)
 clear b1 b2 b3 c1 c2 c3 B0 hb0 B1 hb1
 refine (q _ hb2).mono ?_
 rintro e w3 ⟨rfl, hb⟩
 have B3 := B2.keep hb
 have N3 := N2.keep hb
 have hb3 := hb2.trans (hb.mono hb2.size)
 clear q hb B2 hb2 N2 m2
 obtain ⟨b1, b2, b3⟩ := id B3
 obtain ⟨c1, c2, c3⟩ := id N3
 clear B3 N3
 cases f
 ·have HZ : Hid (r = true) := Lib.hid (by rw [← HR.out]; simp [bigT, HF.out])
  clear HR HF
  go_wp2_with fail
  go_ret
  exact ⟨by rw [HZ.out]; rfl, hb3⟩
 by_cases gpa : (100 : Int) < (pa.length : Int)
 ·have e1 : decide ((100 : Int) < (pa.length : Int)) = true := by simpa using gpa
  have HZ : Hid (r = true) := Lib.hid (by rw [← HR.out]; simp [bigT, overS, e1])
  clear HR HF
  go_wp2_with fail
  go_ret
  exact ⟨by rw [HZ.out]; rfl, hb3⟩
 have dpa : decide ((100 : Int) < (pa.length : Int)) = false := by simpa using gpa
 clear gpa
 by_cases gst : (100 : Int) < (st.length : Int)
 ·have e1 : decide ((100 : Int) < (st.length : Int)) = true := by simpa using gst
  have HZ : Hid (r = true) := Lib.hid (by rw [← HR.out]; simp [bigT, overS, e1])
  clear HR HF
  go_wp2_with fail
  go_ret
  exact ⟨by rw [HZ.out]; rfl, hb3⟩
 have dst : decide ((100 : Int) < (st.length : Int)) = false := by simpa using gst
 clear gst
 by_cases grc : (100 : Int) < (rc.length : Int)
 ·have e1 : decide ((100 : Int) < (rc.length : Int)) = true := by simpa using grc
  have HZ : Hid (r = true) := Lib.hid (by rw [← HR.out]; simp [bigT, overS, e1])
  clear HR HF
  go_wp2_with fail
  go_ret
  exact ⟨by rw [HZ.out]; rfl, hb3⟩
 have drc : decide ((100 : Int) < (rc.length : Int)) = false := by simpa using grc
 clear grc
 by_cases gtx : (100 : Int) < (tx.length : Int)
 ·have e1 : decide ((100 : Int) < (tx.length : Int)) = true := by simpa using gtx
  have HZ : Hid (r = true) := Lib.hid (by rw [← HR.out]; simp [bigT, overS, e1])
  clear HR HF
  go_wp2_with fail
  go_ret
  exact ⟨by rw [HZ.out]; rfl, hb3⟩
 have dtx : decide ((100 : Int) < (tx.length : Int)) = false := by simpa using gtx
 clear gtx
 by_cases gme : (100 : Int) < (me.length : Int)
 ·have e1 : decide ((100 : Int) < (me.length : Int)) = true := by simpa using gme
  have HZ : Hid (r = true) := Lib.hid (by rw [← HR.out]; simp [bigT, overS, e1])
  clear HR HF
  go_wp2_with fail
  go_ret
  exact ⟨by rw [HZ.out]; rfl, hb3⟩
 have dme : decide ((100 : Int) < (me.length : Int)) = false := by simpa using gme
 clear gme
 by_cases gne : (100 : Int) < (ne.length : Int)
 ·have e1 : decide ((100 : Int) < (ne.length : Int)) = true := by simpa using gne
  have HZ : Hid (r = true) := Lib.hid (by rw [← HR.out]; simp [bigT, overS, e1])
  clear HR HF
  go_wp2_with fail
  go_ret
  exact ⟨by rw [HZ.out]; rfl, hb3⟩
 have dne : decide ((100 : Int) < (ne.length : Int)) = false := by simpa using gne
 clear gne
 have HZ : Hid (r = decide ((100 : Int) < (L.length : Int))) := Lib.hid (by rw [← HR.out]; simp only [bigT, overS, HF.out, dpa, dst, drc, dtx, dme, dne]; simp)
 clear HR HF
 go_wp2_with fail
 go_ret
 exact ⟨by rw [HZ.out]; first | rfl | (exact ret_bool (by simp)), hb3⟩
end Go.Proofs.YthgjdaomcpinaaaGreatDoor
namespace Go.Proofs.YthgjdaomcpinaaaGreatDoor
open Go.Shelf
def laysRepeat_ren : Go.Shelf.Ren := ⟨fun | 105 => 74 | 212 => 129 | 99 => 130 | 165 => 131 | 166 => 132 | 170 => 133 | 169 => 134 | 263 => 157 | 264 => 158 | 206 => 159 | 240 => 160 | 241 => 161 | 276 => 177 | 277 => 178 | n => n, fun | 9 => 9 | 3 => 3 | 4 => 4 | 20 => 20 | 0 => 0 | 46 => 170 | 109 => 171 | 5 => 5 | 72 => 176 | 76 => 179 | 51 => 196 | 146 => 197 | 53 => 199 | 148 => 200 | 70 => 174 | 37 => 113 | 75 => 178 | 127 => 202 | 164 => 215 | 80 => 87 | n => n, fun | n => n⟩
theorem laysRepeat : Go.Proofs.Lays.n105 Tryz.prog laysRepeat_ren := {
 mixed := by kernel_rfl
 f99 := Tryz.func130.trans (congrArg some (by kernel_rfl))
 f105 := Tryz.func74.trans (congrArg some (by kernel_rfl))
 f165 := Tryz.func131.trans (congrArg some (by kernel_rfl))
 f166 := Tryz.func132.trans (congrArg some (by kernel_rfl))
 f169 := Tryz.func134.trans (congrArg some (by kernel_rfl))
 f170 := Tryz.func133.trans (congrArg some (by kernel_rfl))
 f206 := Tryz.func159.trans (congrArg some (by kernel_rfl))
 f212 := Tryz.func129.trans (congrArg some (by kernel_rfl))
 f240 := Tryz.func160.trans (congrArg some (by kernel_rfl))
 f241 := Tryz.func161.trans (congrArg some (by kernel_rfl))
 f263 := Tryz.func157.trans (congrArg some (by kernel_rfl))
 f264 := Tryz.func158.trans (congrArg some (by kernel_rfl))
 f276 := Tryz.func177.trans (congrArg some (by kernel_rfl))
 f277 := Tryz.func178.trans (congrArg some (by kernel_rfl))
 t0 := Tryz.underlying0
 a0 := Tryz.isAgg0
 z0 := Tryz.sizeOf0
 v0 := Tryz.zeroValue0
 t3 := Tryz.underlying3
 a3 := Tryz.isAgg3
 z3 := Tryz.sizeOf3
 v3 := Tryz.zeroValue3
 t4 := Tryz.underlying4
 a4 := Tryz.isAgg4
 z4 := Tryz.sizeOf4
 v4 := Tryz.zeroValue4
 t5 := Tryz.underlying5
 a5 := Tryz.isAgg5
 z5 := Tryz.sizeOf5
 v5 := Tryz.zeroValue5
 t9 := Tryz.underlying9
 a9 := Tryz.isAgg9
 z9 := Tryz.sizeOf9
 v9 := Tryz.zeroValue9
 t20 := Tryz.underlying20
 a20 := Tryz.isAgg20
 z20 := Tryz.sizeOf20
 v20 := Tryz.zeroValue20
 t37 := Tryz.underlying113
 a37 := Tryz.isAgg113
 z37 := Tryz.sizeOf113
 v37 := Tryz.zeroValue113
 t46 := Tryz.underlying170
 a46 := Tryz.isAgg170
 z46 := Tryz.sizeOf170
 v46 := Tryz.zeroValue170
 t51 := Tryz.underlying196
 a51 := Tryz.isAgg196
 z51 := Tryz.sizeOf196
 v51 := Tryz.zeroValue196
 t53 := Tryz.underlying199
 a53 := Tryz.isAgg199
 z53 := Tryz.sizeOf199
 v53 := Tryz.zeroValue199
 t70 := Tryz.underlying174
 a70 := Tryz.isAgg174
 z70 := Tryz.sizeOf174
 v70 := Tryz.zeroValue174
 t72 := Tryz.underlying176
 a72 := Tryz.isAgg176
 z72 := Tryz.sizeOf176
 v72 := Tryz.zeroValue176
 t75 := Tryz.underlying178
 a75 := Tryz.isAgg178
 z75 := Tryz.sizeOf178
 v75 := Tryz.zeroValue178
 t76 := Tryz.underlying179
 a76 := Tryz.isAgg179
 z76 := Tryz.sizeOf179
 v76 := Tryz.zeroValue179
 t109 := Tryz.underlying171
 a109 := Tryz.isAgg171
 z109 := Tryz.sizeOf171
 v109 := Tryz.zeroValue171
 t127 := Tryz.underlying202
 a127 := Tryz.isAgg202
 z127 := Tryz.sizeOf202
 v127 := Tryz.zeroValue202
 t146 := Tryz.underlying197
 a146 := Tryz.isAgg197
 z146 := Tryz.sizeOf197
 v146 := Tryz.zeroValue197
 t148 := Tryz.underlying200
 a148 := Tryz.isAgg200
 z148 := Tryz.sizeOf200
 v148 := Tryz.zeroValue200
 t164 := Tryz.underlying215
 a164 := Tryz.isAgg215
 z164 := Tryz.sizeOf215
 v164 := Tryz.zeroValue215 }
end Go.Proofs.YthgjdaomcpinaaaGreatDoor
