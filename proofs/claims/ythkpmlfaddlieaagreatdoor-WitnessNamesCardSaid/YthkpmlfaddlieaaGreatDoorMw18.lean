/- LedA, Below, Few, OfP, MTot, Of. -/
import Derived.Maps.Views
import Derived.Maps.OwnOps
import Derived.Maps.Own
import Derived.Test.YthkpmlfaddlieaaGreatDoorMw17
set_option linter.unnecessarySimpa false
set_option linter.unusedSimpArgs false
set_option linter.unusedVariables false
set_option maxRecDepth 100000
set_option maxHeartbeats 32000000
namespace Go.Proofs.YthkpmlfaddlieaaGreatDoor
open Go.RowKit Go.Shelf Pl
section
variable {ops : Array Oper} {o : Oper} {rest : List Oper} {a : Act} {w : World} {Q : Exit → Act → World → Prop}
theorem wpList_appE (hgd : o.guard = none) (s x : Operand)
  (ho : o.op = .call { callee := .builtin .append, args := #[s, x], argTypes := #[31, 31] })
  (base : Nat) (v : Value) (cs : List EntX) (hs : a.eval s = v) (hown : w.ownsRow base 52 17 v cs.length (cs.flatMap ecsX))
  (q off m c : Nat) (news : List EntX) (hm : news.length = m) (hx : a.eval x = .slice (some ⟨q, off, none⟩) m c) (hq : w.rangeAt q off (news.flatMap ecsX)) (hu : ∀ y ∈ news, EntAt w y)
  (hlen : cs.length + m ≤ 1000000) (hbase : base ≤ w.heap.size)
  (h : ∀ v' w', w'.ownsRow base 52 17 v' (cs ++ news).length ((cs ++ news).flatMap ecsX) → Below base w w' → wpList Tryz.prog ops Q rest (a.put o.dst v') w') : wpList Tryz.prog ops Q (o :: rest) a w := by
 refine wpList_appGm hgd s x 31 52 nilE 17 288 Tryz.underlying31 infoEnt rfl (by decide) (by decide) ho base cs.length v (cs.flatMap ecsX) (news.flatMap ecsX) hs hown q off m c (by rw [ecsX_all, hm]) hx hq
  (fun u hu2 => by rw [List.mem_flatMap] at hu2; obtain ⟨y, hy, hu2⟩ := hu2; exact (hu y hy).one u hu2) hlen hbase (fun v' w' k1 k2 _ => h v' w' ?_ (grown_below k2 hbase (fun k hk => (row_ltO hown hk).1)))
 rw [List.length_append, hm, List.flatMap_append]
 exact k1
end
theorem row_keepE {W w : World} {b e s n : Nat} {v : Value} {xs : List Value} (h : W.ownsRow b e s v n xs) (hb : Below W.heap.size W w) : w.ownsRow b e s v n xs := by
 refine ⟨h.1, h.2.imp id ?_⟩
 rintro ⟨g, cap, cur, hv, h1, h2, h3⟩
 subst hv
 have hg : g < W.heap.size := by
  rcases Nat.lt_or_ge g W.heap.size with hlt | hge
  ·exact hlt
  ·rw [Array.getElem?_eq_none hge] at h2; cases h2
 exact ⟨g, cap, cur, rfl, h1, (hb.block g hg).trans h2, h3⟩
def AddO (W : World) (S : List (Bs × Int)) (n : Nat) (e : Ending) (w' : World) : Prop :=
 ∃ v E, e = .returned (.tuple #[v, .int .i64 0]) ∧ EL w' v E ∧ LedI S E ∧ E.length = n + 1 ∧ Below W.heap.size W w'
theorem radd_ent (v : Value) (E : List Ent) (S : List (Bs × Int)) (w : World) (hE : LedI S E) (hv : EL w v E) (hn : E.length ≤ 10) :
  Calls Tryz.prog 30 #[v, .int .i64 E.length, .slice none 0 0] w (AddO w S E.length) := by
 have q1 := rmake_any v E S w hE hv hn
 obtain ⟨cs, h1, h2, a, cap, rfl, h4, h5, h6⟩ := hv
 obtain ⟨g, off, rfl, hg, hr⟩ := h6 (fun e => by have := hE.ne; rw [e] at this; simp at this)
 have hlc : cs.length = E.length := by rw [← h1, List.length_map]
 have HE := Lib.hid hE
 have H1 := Lib.hid h1
 have H2 := Lib.hid h2
 have HLC := Lib.hid hlc
 clear hE h1 h2 hlc h4 h5 h6
 go_enter Tryz.func30, Tryz.ntmps30
 go_wp2_with fail
 refine q1.mono ?_
 rintro e w1 ⟨y, rfl, hy, hei, hb1⟩
 have HR1 := Lib.hid (rg_keep hr hg hb1)
 have HEI := Lib.hid hei
 have HY := Lib.hid hy
 clear q1 hr hei hy
 go_wp2_with (first
  | (refine wpList_rowStore row_ent rfl rfl (.tmp 8) (.tmp 16) rfl rfl (vs := ecsX y) rfl rfl HY.out.one (us := ecs entZ (.slice none 0 0) (.slice none 0 0) (.slice none 0 0) (.slice none 0 0)) rfl (Blk.new' (by simp)) ?_; intro w5 N5 m5; have hb5 : Below w1.heap.size w1 w5 := Below.mod (Below.allocS (Below.refl _ _) _) m5 (by simp) (by simp); have HN5 := Lib.hid N5; clear m5 N5)
  | (at_builtin; refine wpList_appE rfl (.tmp 22) (.tmp 23) rfl w5.heap.size (.slice none 0 0) [] rfl ⟨rfl, .inl ⟨rfl, rfl⟩⟩ g off E.length cap cs HLC.out rfl (rg_keep HR1.out (Nat.lt_of_lt_of_le hg hb1.size) hb5) (fun z hz => (H2.out z hz).keep (hb1.trans (hb5.mono hb1.size))) (by simp; omega) (Nat.le_refl _) ?_; intro v6 w6 hr6 hb6; rw [List.nil_append] at hr6)
  | (refine wpList_rowLoad row_ent rfl (.tmp 8) rfl rfl (vs := ecsX y) rfl (HN5.out.keep hb6) ?_)
  | (show wpList _ _ _ ({ dst := some 27, op := .buildSlice _ _ _, type := _, pos := _, after := _, guard := _ } :: _) _ _; refine wpList_plain rfl fun K hK => wp_newK 52 (ecsX y).toArray (fun k => .slice (some ⟨k, 0, none⟩) 1 1) (fun W2 => (by kernel_rfl)) ?_; intro k3 w7 hk3 hh3 hl3 hb7; refine hK _ _ ?_; have hr7 := row_keepE hr6 hb7; have HK3 := Lib.hid (Blk.of_heap hh3 hl3); clear hh3)
  | (at_builtin; refine wpList_appE rfl (.tmp 25) (.tmp 27) rfl w5.heap.size _ cs rfl hr7 k3 0 1 1 [y] rfl rfl (by have := HK3.out.range; simpa [List.flatMap_cons] using this) (fun z hz => by rw [List.mem_singleton] at hz; subst hz; exact ((HY.out.keep hb5).keep (hb6.mono (Nat.le_refl _))).keep hb7) (by have := HLC.out; omega) (by have := hb6.size; have := hb7.size; omega) ?_; intro v8 w8 hr8 hb8)
  | fail)
 go_ret2
 have hb68 : Below w5.heap.size w5 w8 := (hb6.trans (hb7.mono hb6.size)).trans hb8
 have hb58 := hb5.trans (hb68.mono hb5.size)
 have hbw := hb1.trans (hb58.mono hb1.size)
 refine ⟨v8, (cs ++ [y]).map (·.e), rfl, EL.of_row hr8 (fun z hz => ?_), ⟨by simp, fun i hi => ?_, HE.out.chk⟩, by simp [HLC.out], hbw⟩
 ·rcases List.mem_append.1 hz with hz | hz
  ·exact (H2.out z hz).keep hbw
  ·rw [List.mem_singleton] at hz; subst hz; exact HY.out.keep hb58
 ·rw [List.map_append, H1.out]
  simp only [List.length_map, List.length_append, List.length_cons, List.length_nil] at hi
  by_cases hlt : i < E.length
  ·rw [List.getD_eq_getElem?_getD, List.getElem?_append_left hlt, ← List.getD_eq_getElem?_getD]
   exact HE.out.all i hlt
  ·have : i = E.length := by have := HLC.out; omega
   subst this
   rw [List.getD_eq_getElem?_getD, List.getElem?_append_right (Nat.le_refl _)]
   simpa using HEI.out
end Go.Proofs.YthkpmlfaddlieaaGreatDoor
namespace Go.Proofs.YthkpmlfaddlieaaGreatDoor
open Go.RowKit
theorem tmod_small (x n : Int) (h : 0 < n) : -n < x.tmod n ∧ x.tmod n < n := by
 rw [Int.tmod_eq_emod]
 have h1 := Int.emod_nonneg x (Int.ne_of_gt h)
 have h2 := Int.emod_lt_of_pos x h
 split <;> omega
theorem tmod_twice (x n : Int) (h : 0 < n) : (x.tmod n + n).tmod n = x % n := by
 have hs := tmod_small x n h
 rw [Int.tmod_eq_emod_of_nonneg (by omega), Int.add_emod_right, Int.tmod_eq_emod]
 split
 ·simp
 ·rw [show (x % n - (n.natAbs : Int)) = x % n + n * (-1) from by omega, Int.add_mul_emod_self_left, Int.emod_emod]
def modN (x : Int) (n : Nat) : Nat := (x % (n : Int)).toNat
theorem modN_eq (x : Int) (n : Nat) (h : 0 < n) : ((modN x n : Nat) : Int) = x % (n : Int) := by
 unfold modN
 rw [Int.toNat_of_nonneg (Int.emod_nonneg x (by omega))]
theorem modN_lt (x : Int) (n : Nat) (h : 0 < n) : modN x n < n := by
 have := modN_eq x n h
 have h2 := Int.emod_lt_of_pos x (show (0 : Int) < (n : Int) from by omega)
 omega
theorem below_any (x : Int) (n : Nat) (h0 : 0 < n) (hn : n ≤ 1000000000) (w : World) :
  Calls Tryz.prog 9 #[.int .i64 x, .int .i64 ((n : Int))] w fun e w' => e = .returned (.int .i64 ((modN x n : Int))) ∧ w' = w := by
 have h1 := tmod_small x n (by omega)
 have h2 := tmod_twice x n (by omega)
 rw [← modN_eq x n h0] at h2
 have z : ((n : Int) == 0) = false := by simp; omega
 have z2 : (n : Int) ≠ 0 := by omega
 have w1 : IntKind.i64.wrap (x.tmod n + n) = x.tmod n + n := by rw [IntKind.wrap_i64]; omega
 have hm := modN_lt x n h0
 have w2 : IntKind.i64.wrap (x.tmod n) = x.tmod n := by rw [IntKind.wrap_i64]; omega
 have w3 : IntKind.i64.wrap ((modN x n : Nat) : Int) = ((modN x n : Nat) : Int) := by rw [IntKind.wrap_i64]; omega
 go_enter Tryz.func9, Tryz.ntmps9
 go_wp2_with fail
 all_goals (go_ret; exact ⟨by simp [w1, w2, w3, h2], rfl⟩)
end Go.Proofs.YthkpmlfaddlieaaGreatDoor
namespace Go.Proofs.YthkpmlfaddlieaaGreatDoor
open Go.RowKit Pl
namespace Pl
def fewA (each : Int) (l : List Bs) : Bool := l.all fun x => decide ((x.length : Int) ≤ each)
def fewP (l : List Bs) (n each : Int) : Bool := decide ((l.length : Int) ≤ n) && fewA each l
theorem fewA_drop (each : Int) (l : List Bs) (i : Nat) (hi : i < l.length) : fewA each (l.drop i) = (decide (((l.getD i []).length : Int) ≤ each) && fewA each (l.drop (i + 1))) := by
 rw [dropS l i hi]
 rfl
end Pl
theorem few_any (v : Value) (l : List Bs) (n each : Int) (w : World) (hv : SS w v l) :
  Calls Tryz.prog 31 #[v, .int .i64 n, .int .i64 each] w fun e w' => e = .returned (.bool (fewP l n each)) ∧ Below w.heap.size w w' := by
 generalize hr : fewP l n each = r
 have HR := Lib.hid hr
 clear hr
 obtain ⟨a, c, rfl⟩ := hv.form
 have HV := Lib.hid hv
 have hm := hv.small
 clear hv
 by_cases hn : n < (l.length : Int)
 ·have hd : decide (n < (l.length : Int)) = true := by simpa using hn
  have HZ : Hid (false = r) := Lib.hid (by rw [← HR.out]; have : ¬ (l.length : Int) ≤ n := (by omega); simp [fewP, this])
  go_enter Tryz.func31, Tryz.ntmps31
  go_wp2_with fail
  all_goals (go_ret; exact ⟨by rw [← HZ.out]; rfl, Below.refl _ _⟩)
 ·have hd : decide (n < (l.length : Int)) = false := by simpa using hn
  have HZ : Hid (fewA each l = r) := Lib.hid (by rw [← HR.out]; have : (l.length : Int) ≤ n := (by omega); simp [fewP, this])
  clear HR
  go_enter Tryz.func31, Tryz.ntmps31
  go_wp2_with fail
  go_loopw [7] (fun s7 wr => ∃ i : Nat, i ≤ l.length ∧ s7 = .int .i64 i ∧ Hid (fewA each (l.drop i) = r) ∧ Below w.heap.size w wr) (fun s7 _ => l.length - (intOf s7).toNat)
  case atStart => exact ⟨0, by omega, rfl, Lib.hid HZ.out, Below.refl _ _⟩
  case round =>
   obtain ⟨i, hi, rfl, HI, hb⟩ := hrel
   obtain ⟨wq, h⟩ := Below.nm hb
   subst h
   by_cases hlt : i < l.length
   ·have hlt' : (i : Int) < (l.length : Int) := by omega
    obtain ⟨g, off, rfl, c1⟩ := (HV.out.keep hb).at i hlt
    have hi2 := HI.out
    rw [fewA_drop each l i hlt] at hi2
    generalize hx : l.getD i [] = x at *
    have HX := Lib.hid hx
    clear hx
    by_cases hle : each < (x.length : Int)
    ·have hd2 : decide (each < (x.length : Int)) = true := by simpa using hle
     have HQ : Hid (false = r) := Lib.hid (by rw [← hi2]; have : ¬ (x.length : Int) ≤ each := (by omega); simp [this])
     clear HI hi2 HZ
     go_wp2_with fail
     all_goals (go_ret; exact ⟨by rw [← HQ.out]; rfl, hb⟩)
    ·have hd2 : decide (each < (x.length : Int)) = false := by simpa using hle
     have HQ : Hid (fewA each (l.drop (i + 1)) = r) := Lib.hid (by rw [← hi2]; have : (x.length : Int) ≤ each := (by omega); simp [this])
     clear HI hi2 HZ
     go_wp2_with fail
     exact ⟨⟨i + 1, by omega, by go_num, HQ, hb⟩, by simp [intOf]; omega⟩
   ·obtain rfl : i = l.length := by omega
    have hlt' : ¬ (l.length : Int) < (l.length : Int) := by omega
    have HQ : Hid (true = r) := Lib.hid (by rw [← HI.out]; simp [fewA])
    clear HI HZ
    go_wp2_with fail
    all_goals (go_ret; exact ⟨by rw [← HQ.out]; rfl, hb⟩)
end Go.Proofs.YthkpmlfaddlieaaGreatDoor
namespace Go.Proofs.YthkpmlfaddlieaaGreatDoor
open Go.Maps
namespace Pl
def cntD : List Bs → DataW Unit
 | [] => .map []
 | n :: r => (cntD r).put (.string n) (.lit (.int .i64 (((r.count n + 1 : Nat)) : Int)))
theorem cntD_map : ∀ r, IsMap (cntD r)
 | [] => ⟨[], rfl⟩
 | n :: r => by
  obtain ⟨es, h⟩ := cntD_map r
  unfold cntD
  rw [h]
  exact ⟨_, rfl⟩
theorem cntD_at : ∀ (r : List Bs) (n : Bs), (cntD r).atKey (.string n) (.lit (.int .i64 0)) = .lit (.int .i64 ((r.count n : Nat) : Int))
 | [], n => rfl
 | x :: r, n => by
  unfold cntD
  by_cases h : n = x
  ·subst h
   rw [atKey_put_same (cntD_map r) (by first | trivial | exact rfl | simp [WideAt.IsKeyLit])]
   simp
  ·rw [atKey_put_other (by intro e; injection e with e; exact h e), cntD_at r n]
   rw [List.count_cons_of_ne (fun e => h e.symm)]
end Pl
end Go.Proofs.YthkpmlfaddlieaaGreatDoor
namespace Go.Proofs.YthkpmlfaddlieaaGreatDoor
open Go.RowKit Pl
namespace Pl
def sumM : List (Bs × Int) → Int
 | [] => 0
 | x :: r => x.2 + sumM r
def totM (l : List (Bs × Int)) : Int := if chkM l then sumM l else 0
theorem sumM_app (a : List (Bs × Int)) (x : Bs × Int) : sumM (a ++ [x]) = sumM a + x.2 := by
 induction a with
 | nil => simp [sumM]
 | cons y r ih => simp only [List.cons_append, sumM, ih]; omega
theorem sumM_take (l : List (Bs × Int)) (h : ∀ i, i < l.length → 1 ≤ (l.getD i ([], 0)).2 ∧ (l.getD i ([], 0)).2 ≤ 1000) : ∀ k, k ≤ l.length → (k : Int) ≤ sumM (l.take k) ∧ sumM (l.take k) ≤ 1000 * (k : Int)
 | 0, _ => by simp [sumM]
 | k + 1, hk => by
  have h1 := sumM_take l h k (by omega)
  have h2 := h k (by omega)
  rw [take_getD l k (by omega), sumM_app]
  omega
theorem totM_bound (l : List (Bs × Int)) : 0 ≤ totM l ∧ totM l ≤ 7000 := by
 unfold totM
 split
 ·rename_i hc
  simp only [chkM, Bool.and_eq_true, decide_eq_true_eq] at hc
  have h := sumM_take l (fun i hi => (okM_at l [] hc.2 i hi).2) l.length (by omega)
  rw [List.take_length] at h
  omega
 ·omega
end Pl
theorem mtotal_any (v : Value) (l : List (Bs × Int)) (w : World) (hv : MS w v l) :
  Calls Tryz.prog 13 #[v] w fun e w' => e = .returned (.int .i64 (totM l)) ∧ Below w.heap.size w w' := by
 generalize hr : totM l = r
 have HR := Lib.hid hr
 clear hr
 obtain ⟨a, c, rfl⟩ := hv.form
 have hm := hv.small
 have hchk := mcheck_any _ l w hv
 have HV := Lib.hid hv
 clear hv
 cases hc : chkM l
 ·rw [hc] at hchk
  have HC := Lib.hid hchk
  have HR2 : Hid (0 = r) := Lib.hid (by rw [← HR.out]; simp [totM, hc])
  clear hchk hc HR HV
  go_enter Tryz.func13, Tryz.ntmps13
  go_wp2_with fail
  refine HC.out.mono ?_
  rintro e w1 ⟨rfl, hb⟩
  unfold setI
  go_wp2_with fail
  all_goals (go_ret; refine ⟨?_, hb⟩; rw [← HR2.out]; rfl)
 ·rw [hc] at hchk
  have HC := Lib.hid hchk
  have HR2 : Hid (sumM l = r) := Lib.hid (by rw [← HR.out]; simp [totM, hc])
  simp only [chkM, Bool.and_eq_true, decide_eq_true_eq] at hc
  have h7 := hc.1.2
  have HB := Lib.hid (sumM_take l (fun i hi => (okM_at l [] hc.2 i hi).2))
  have HO := Lib.hid (okM_at l [] hc.2)
  clear hchk hc HR
  go_enter Tryz.func13, Tryz.ntmps13
  go_wp2_with fail
  refine HC.out.mono ?_
  rintro e w1 ⟨rfl, hb⟩
  unfold setI
  go_wp2_with fail
  go_loopw [3, 11] (fun s3 s11 wr => ∃ i : Nat, i ≤ l.length ∧ s11 = .int .i64 i ∧ s3 = .int .i64 (sumM (l.take i)) ∧ Below w.heap.size w wr) (fun _ s11 _ => l.length - (intOf s11).toNat)
  case atStart => exact ⟨0, by omega, rfl, by simp [sumM], hb⟩
  case round =>
   obtain ⟨i, hi, rfl, rfl, hb⟩ := hrel
   obtain ⟨wq, h⟩ := Below.nm hb
   subst h
   by_cases hlt : i < l.length
   ·obtain ⟨g, off, rfl, hg, c1, c2⟩ := (HV.out.keep hb).at i hlt
    obtain ⟨o1, o2, o3⟩ := HO.out i hlt
    have hB := HB.out i (by omega)
    have hnx : sumM (l.take (i + 1)) = sumM (l.take i) + (l.getD i ([], 0)).2 := by rw [take_getD l i hlt, sumM_app]
    generalize hx : l.getD i ([], 0) = x at *
    obtain ⟨n, p⟩ := x
    simp only at c1 c2 hnx o1 o2 o3
    generalize sumM (l.take i) = s at *
    have q1 : IntKind.i64.wrap (s + p) = s + p := IntWalk.i64_in _ (by omega)
    clear hx HB HO
    go_wp2_with fail
    exact ⟨⟨i + 1, by omega, by go_num, by rw [hnx], Below.allocS hb _⟩, by simp [intOf]; omega⟩
   ·obtain rfl : i = l.length := by omega
    go_wp2_with fail
    all_goals (go_ret; refine ⟨?_, hb⟩; rw [← HR2.out]; simp)
namespace Pl
def quoM (l : List (Bs × Int)) : Int := if totM l = 0 then 0 else (2 * totM l).tdiv 3 + 1
def mostM (l : List (Bs × Int)) : Int := if totM l = 0 then 0 else (totM l - 1).tdiv 3
end Pl
theorem mquorum_any (v : Value) (l : List (Bs × Int)) (w : World) (hv : MS w v l) :
  Calls Tryz.prog 77 #[v] w fun e w' => e = .returned (.int .i64 (quoM l)) ∧ Below w.heap.size w w' := by
 have ht := mtotal_any v l w hv
 have hbd := totM_bound l
 unfold quoM
 have HT := Lib.hid ht
 obtain ⟨a, c, rfl⟩ := hv.form
 clear ht hv
 generalize totM l = t at *
 by_cases h0 : t = 0
 ·subst h0
  go_enter Tryz.func77, Tryz.ntmps77
  go_wp2_with fail
  refine HT.out.mono ?_
  rintro e w1 ⟨rfl, hb⟩
  go_wp2_with fail
  all_goals (go_ret; exact ⟨rfl, hb⟩)
 ·rw [if_neg h0]
  have h1 : (t == 0) = false := by simpa using h0
  have q1 : IntKind.i64.wrap (2 * t) = 2 * t := IntWalk.i64_in _ (by omega)
  have q0 : (2 * t).tdiv 3 = 2 * t / 3 := Int.tdiv_eq_ediv_of_nonneg (by omega)
  have q2 : IntKind.i64.wrap ((2 * t).tdiv 3) = (2 * t).tdiv 3 := IntWalk.i64_in _ (by omega)
  have q3 : IntKind.i64.wrap ((2 * t).tdiv 3 + 1) = (2 * t).tdiv 3 + 1 := IntWalk.i64_in _ (by omega)
  clear q0
  go_enter Tryz.func77, Tryz.ntmps77
  go_wp2_with fail
  refine HT.out.mono ?_
  rintro e w1 ⟨rfl, hb⟩
  go_wp2_with fail
  all_goals (go_ret; exact ⟨rfl, hb⟩)
theorem mmost_any (v : Value) (l : List (Bs × Int)) (w : World) (hv : MS w v l) :
  Calls Tryz.prog 12 #[v] w fun e w' => e = .returned (.int .i64 (mostM l)) ∧ Below w.heap.size w w' := by
 have ht := mtotal_any v l w hv
 have hbd := totM_bound l
 unfold mostM
 have HT := Lib.hid ht
 obtain ⟨a, c, rfl⟩ := hv.form
 clear ht hv
 generalize totM l = t at *
 by_cases h0 : t = 0
 ·subst h0
  go_enter Tryz.func12, Tryz.ntmps12
  go_wp2_with fail
  refine HT.out.mono ?_
  rintro e w1 ⟨rfl, hb⟩
  go_wp2_with fail
  all_goals (go_ret; exact ⟨rfl, hb⟩)
 ·rw [if_neg h0]
  have h1 : (t == 0) = false := by simpa using h0
  have q1 : IntKind.i64.wrap (t - 1) = t - 1 := IntWalk.i64_in _ (by omega)
  have q0 : (t - 1).tdiv 3 = (t - 1) / 3 := Int.tdiv_eq_ediv_of_nonneg (by omega)
  have q2 : IntKind.i64.wrap ((t - 1).tdiv 3) = (t - 1).tdiv 3 := IntWalk.i64_in _ (by omega)
  clear q0
  go_enter Tryz.func12, Tryz.ntmps12
  go_wp2_with fail
  refine HT.out.mono ?_
  rintro e w1 ⟨rfl, hb⟩
  go_wp2_with fail
  all_goals (go_ret; exact ⟨rfl, hb⟩)
end Go.Proofs.YthkpmlfaddlieaaGreatDoor
namespace Go.Proofs.YthkpmlfaddlieaaGreatDoor
open Go.RowKit Go.WideMaps Go.Maps Pl
theorem keyedS : Keyed Tryz.prog 9 := string_keyed Tryz.underlying9
theorem zeroI (w : World) : (zeroValue 3).run Tryz.prog w = .ok (.int .i64 0) w := by kernel_rfl
namespace Pl
def sumOf (names : List Bs) : List (Bs × Int) → Int
 | [] => 0
 | x :: r => (if names.contains x.1 then x.2 else 0) + sumOf names r
theorem sumOf_app (names : List Bs) (a : List (Bs × Int)) (x : Bs × Int) : sumOf names (a ++ [x]) = sumOf names a + (if names.contains x.1 then x.2 else 0) := by
 induction a with
 | nil => simp [sumOf]
 | cons y r ih => simp only [List.cons_append, sumOf, ih]; omega
theorem sumOf_take (names : List Bs) (l : List (Bs × Int)) (h : ∀ i, i < l.length → 1 ≤ (l.getD i ([], 0)).2 ∧ (l.getD i ([], 0)).2 ≤ 1000) : ∀ k, k ≤ l.length → 0 ≤ sumOf names (l.take k) ∧ sumOf names (l.take k) ≤ 1000 * (k : Int)
 | 0, _ => by simp [sumOf]
 | k + 1, hk => by
  have h1 := sumOf_take names l h k (by omega)
  have h2 := h k (by omega)
  rw [take_getD l k (by omega), sumOf_app]
  split <;> omega
def ofM (l : List (Bs × Int)) (names : List Bs) : Int := if chkM l then sumOf names l else 0
end Pl
theorem ownsMap_keep {H : Type} {R : Value → Option (DataW H × List MemPlace)} {W w : World} {t : TypeId} {b n : Nat} {D : DataW H} (h : W.ownsMap Tryz.prog t R b n D) (hb : Below W.heap.size W w) : w.ownsMap Tryz.prog t R b n D := by
 obtain ⟨es, clock, h1, h2⟩ := h
 refine ⟨es, clock, (hb.block b ?_).trans h1, h2⟩
 rcases Nat.lt_or_ge b W.heap.size with hlt | hge
 ·exact hlt
 ·rw [Array.getElem?_eq_none hge] at h1; cases h1
theorem mof_any (v u : Value) (l : List (Bs × Int)) (names : List Bs) (hn : names.length ≤ 1000) (hnl : ∀ i, i < names.length → (names.getD i []).length ≤ maxLen) (w : World) (hv : MS w v l) (hu : SS w u names) :
  Calls Tryz.prog 11 #[v, u] w fun e w' => e = .returned (.int .i64 (ofM l names)) ∧ Below w.heap.size w w' := by
 have hmm := @run_makeMap Tryz.prog
 generalize hr : ofM l names = r
 have HR := Lib.hid hr
 clear hr
 obtain ⟨a, c, rfl⟩ := hv.form
 obtain ⟨b, d, rfl⟩ := hu.form
 have hm := hv.small
 have hchk := mcheck_any _ l w hv
 have HV := Lib.hid hv
 have HU := Lib.hid hu
 clear hv hu
 cases hc : chkM l
 ·rw [hc] at hchk
  have HC := Lib.hid hchk
  have HR2 : Hid (0 = r) := Lib.hid (by rw [← HR.out]; simp [ofM, hc])
  clear hchk hc HR HV HU
  go_enter Tryz.func11, Tryz.ntmps11
  go_wp2_with fail
  refine HC.out.mono ?_
  rintro e w1 ⟨rfl, hb⟩
  unfold setI
  go_wp2_with fail
  all_goals (go_ret; refine ⟨?_, hb⟩; rw [← HR2.out]; rfl)
 ·rw [hc] at hchk
  have HC := Lib.hid hchk
  have HR2 : Hid (sumOf names l = r) := Lib.hid (by rw [← HR.out]; simp [ofM, hc])
  clear hchk HR
  go_enter Tryz.func11, Tryz.ntmps11
  go_wp2_with fail
  refine HC.out.mono ?_
  rintro e w1 ⟨rfl, hb⟩
  unfold setI
  go_wp2_with fail
  have hb1 := hb.alloc hb.size (Obj.map #[] 0)
  go_loopw [17] (fun s17 wr => ∃ i : Nat, i ≤ names.length ∧ s17 = .int .i64 i ∧ wr.ownsMap Tryz.prog 9 (plainElem Tryz.prog 3) w1.heap.size i (cntD (names.take i).reverse) ∧ Below w1.heap.size w1 wr) (fun s17 _ => names.length - (intOf s17).toNat)
  case atStart => exact ⟨0, by omega, rfl, World.ownsMap_made _ _ _ _, (Below.refl _ _).alloc (Nat.le_refl _) _⟩
  case round =>
   obtain ⟨i, hi, rfl, hown, hbm⟩ := hrel
   by_cases hlt : i < names.length
   ·obtain ⟨g, off, rfl, c1⟩ := (HU.out.keep (hb.trans (hbm.mono hb.size))).at i hlt
    have hnx : cntD (names.take (i + 1)).reverse = (cntD (names.take i).reverse).put (.string (names.getD i [])) (.lit (.int .i64 ((((names.take i).reverse.count (names.getD i []) + 1 : Nat)) : Int))) := by
     rw [List.take_succ_eq_append_getElem hlt, List.reverse_append]
     simp [cntD, List.getD, List.getElem?_eq_getElem hlt]
    have hkey : keyOf Tryz.prog 9 (.string ⟨List.toArray (names.getD i [])⟩) = some (.string (names.getD i [])) := keyOf_string_mk Tryz.underlying9 (by simpa [ByteArray.size] using hnl i hlt)
    generalize names.getD i [] = n at *
    obtain ⟨k, hrun, hat, _⟩ := hown.lookup_int keyedS Tryz.underlying102 Tryz.underlying3 (zeroI _) hkey
    have hkc : k = ((names.take i).reverse.count n : Nat) := by
     rw [cntD_at] at hat
     injection hat with hat
     injection hat with _ hat
     exact hat.symm
    have hcl : (names.take i).reverse.count n ≤ i := Nat.le_trans (List.count_le_length) (by simp; omega)
    have q1 : IntKind.i64.wrap (k + 1) = k + 1 := IntWalk.i64_in _ (by omega)
    have hnx2 : cntD (names.take (i + 1)).reverse = (cntD (names.take i).reverse).put (.string n) (.lit (.int .i64 (k + 1))) := by rw [hnx, hkc]; rfl
    have hwf : (Lit.int .i64 (k + 1)).wf = true := by have h := wrap64_wf (k + 1); rw [← IntWalk.i64_left, q1] at h; exact h
    clear hnx hat hkc HU HV HC
    go_wp2_with (first
     | (at_mapUpdate; refine wpList_mapUpdate_own _ rfl _ _ _ 102 rfl 9 3 keyedS Tryz.underlying102 _ w1.heap.size i _ rfl hown (by unfold maxLen; omega) _ _ _ rfl rfl hkey _ [] (plainElem_int Tryz.underlying3 hwf) ?_)
     | go_in)
    intro w2 hown2 hgrow
    have R1 := hnx2.symm ▸ hown2
    have R2 := hbm.grown hgrow hbm.size (fun j hj => by cases hj; exact Nat.le_refl _)
    clear hown2 hgrow hown hrun
    go_wp2_with fail
    exact ⟨⟨i + 1, by omega, by go_num, R1, R2⟩, by simp [intOf]; omega⟩
   ·obtain rfl : i = names.length := by omega
    obtain ⟨wq, h⟩ := Below.nm hbm
    subst h
    rw [List.take_length] at hown
    have hbq := hb.trans (hbm.mono hb.size)
    simp only [chkM, Bool.and_eq_true, decide_eq_true_eq] at hc
    have h7 := hc.1.2
    have HO := Lib.hid (okM_at l [] hc.2)
    have HB := Lib.hid (sumOf_take names l (fun i hi => (okM_at l [] hc.2 i hi).2))
    clear hc
    go_wp2_with fail
    go_loopw [8, 28] (fun s8 s28 wr => ∃ j : Nat, j ≤ l.length ∧ s28 = .int .i64 j ∧ s8 = .int .i64 (sumOf names (l.take j)) ∧ Below wq.heap.size wq wr) (fun _ s28 _ => l.length - (intOf s28).toNat)
    case atStart => exact ⟨0, by omega, rfl, by simp [sumOf], Below.refl _ _⟩
    case round =>
     obtain ⟨j, hj, rfl, rfl, hbj⟩ := hrel
     by_cases hlt : j < l.length
     ·obtain ⟨wr, h⟩ := Below.nm hbj
      subst h
      obtain ⟨g, off, rfl, hg, c1, c2⟩ := (HV.out.keep (hbq.trans (hbj.mono hbq.size))).at j hlt
      obtain ⟨o1, o2, o3⟩ := HO.out j hlt
      have hB := HB.out j (by omega)
      have hnx : sumOf names (l.take (j + 1)) = sumOf names (l.take j) + (if names.contains (l.getD j ([], 0)).1 then (l.getD j ([], 0)).2 else 0) := by rw [take_getD l j hlt, sumOf_app]
      generalize hx : l.getD j ([], 0) = x at *
      obtain ⟨n, q⟩ := x
      simp only at c1 c2 hnx o1 o2 o3
      generalize sumOf names (l.take j) = s at *
      have hown2 := ownsMap_keep hown (Below.allocS hbj (.cells #[.string ⟨List.toArray n⟩, .int .i64 q] 77))
      have hkey : keyOf Tryz.prog 9 (.string ⟨List.toArray n⟩) = some (.string n) := keyOf_string_mk Tryz.underlying9 (by unfold maxLen; simp [ByteArray.size]; omega)
      obtain ⟨k, hrun, hat, _⟩ := hown2.lookup_int keyedS Tryz.underlying102 Tryz.underlying3 (zeroI _) hkey
      have hkc : k = (names.count n : Nat) := by
       rw [cntD_at, List.count_reverse] at hat
       injection hat with hat
       injection hat with _ hat
       exact hat.symm
      have q1 : IntKind.i64.wrap (s + q) = s + q := IntWalk.i64_in _ (by omega)
      clear hx hB HB HO hat hown2
      cases hin : names.contains n
      ·rw [hin] at hnx
       have hk0 : decide ((0 : Int) < k) = false := by
        have : names.count n = 0 := List.count_eq_zero.2 (by simpa using hin)
        rw [hkc, this]; rfl
       clear hkc
       go_wp2_with fail
       exact ⟨⟨j + 1, by omega, by go_num, by rw [hnx]; simp, Below.allocS hbj _⟩, by simp [intOf]; omega⟩
      ·rw [hin] at hnx
       have hk0 : decide ((0 : Int) < k) = true := by
        have : 0 < names.count n := List.count_pos_iff.2 (by simpa using hin)
        rw [hkc, decide_eq_true_iff]; omega
       clear hkc
       go_wp2_with fail
       exact ⟨⟨j + 1, by omega, by go_num, by rw [hnx]; simp, Below.allocS hbj _⟩, by simp [intOf]; omega⟩
     ·obtain rfl : j = l.length := by omega
      go_wp2_with fail
      all_goals (go_ret; refine ⟨?_, hbq.trans (hbj.mono hbq.size)⟩; rw [← HR2.out]; simp)
end Go.Proofs.YthkpmlfaddlieaaGreatDoor
