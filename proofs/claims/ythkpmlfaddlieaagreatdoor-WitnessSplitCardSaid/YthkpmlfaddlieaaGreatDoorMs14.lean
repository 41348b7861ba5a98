/- LedA, Below, Few, OfP, MTot, Of, Orac. -/
import Derived.Maps.Views
import Derived.Maps.OwnOps
import Derived.Maps.Own
import Derived.DeepKeys4
import Derived.Maps.OwnSet
import Derived.Test.YthkpmlfaddlieaaGreatDoorMs13
set_option linter.unnecessarySimpa false
set_option linter.unusedSimpArgs false
set_option linter.unusedVariables false
set_option maxRecDepth 100000
set_option maxHeartbeats 32000000
namespace Go.Proofs.YthkpmlfaddlieaaGreatDoor
open Go.RowKit Go.Shelf Pl
section
variable {ops : Array Oper} {o : Oper} {rest : List Oper} {a : Act} {w : World} {Q : Exit → Act → World → Prop}
theorem wpList_appE (hgd : o.guard = none) (s x : Operand)
  (ho : o.op = .call { callee := .builtin .append, args := #[s, x], argTypes := #[31, 31] })
  (base : Nat) (v : Value) (cs : List EntX) (hs : a.eval s = v) (hown : w.ownsRow base 52 17 v cs.length (cs.flatMap ecsX))
  (q off m c : Nat) (news : List EntX) (hm : news.length = m) (hx : a.eval x = .slice (some ⟨q, off, none⟩) m c) (hq : w.rangeAt q off (news.flatMap ecsX)) (hu : ∀ y ∈ news, EntAt w y)
  (hlen : cs.length + m ≤ 1000000) (hbase : base ≤ w.heap.size)
  (h : ∀ v' w', w'.ownsRow base 52 17 v' (cs ++ news).length ((cs ++ news).flatMap ecsX) → Below base w w' → wpList Tryz.prog ops Q rest (a.put o.dst v') w') : wpList Tryz.prog ops Q (o :: rest) a w := by
 refine wpList_appGm hgd s x 31 52 nilE 17 288 Tryz.underlying31 infoEnt rfl (by decide) (by decide) ho base cs.length v (cs.flatMap ecsX) (news.flatMap ecsX) hs hown q off m c (by rw [ecsX_all, hm]) hx hq
  (fun u hu2 => by rw [List.mem_flatMap] at hu2; obtain ⟨y, hy, hu2⟩ := hu2; exact (hu y hy).one u hu2) hlen hbase (fun v' w' k1 k2 _ => h v' w' ?_ (grown_below k2 hbase (fun k hk => (row_ltO hown hk).1)))
 rw [List.length_append, hm, List.flatMap_append]
 exact k1
end
theorem row_keepE {W w : World} {b e s n : Nat} {v : Value} {xs : List Value} (h : W.ownsRow b e s v n xs) (hb : Below W.heap.size W w) : w.ownsRow b e s v n xs := by
 refine ⟨h.1, h.2.imp id ?_⟩
 rintro ⟨g, cap, cur, hv, h1, h2, h3⟩
 subst hv
 have hg : g < W.heap.size := by
  rcases Nat.lt_or_ge g W.heap.size with hlt | hge
  ·exact hlt
  ·rw [Array.getElem?_eq_none hge] at h2; cases h2
 exact ⟨g, cap, cur, rfl, h1, (hb.block g hg).trans h2, h3⟩
def AddO (W : World) (S : List (Bs × Int)) (n : Nat) (e : Ending) (w' : World) : Prop :=
 ∃ v E, e = .returned (.tuple #[v, .int .i64 0]) ∧ EL w' v E ∧ LedI S E ∧ E.length = n + 1 ∧ Below W.heap.size W w'
theorem radd_ent (v : Value) (E : List Ent) (S : List (Bs × Int)) (w : World) (hE : LedI S E) (hv : EL w v E) (hn : E.length ≤ 10) :
  Calls Tryz.prog 30 #[v, .int .i64 E.length, .slice none 0 0] w (AddO w S E.length) := by
 have q1 := rmake_any v E S w hE hv hn
 obtain ⟨cs, h1, h2, a, cap, rfl, h4, h5, h6⟩ := hv
 obtain ⟨g, off, rfl, hg, hr⟩ := h6 (fun e => by have := hE.ne; rw [e] at this; simp at this)
 have hlc : cs.length = E.length := by rw [← h1, List.length_map]
 have HE := Lib.hid hE
 have H1 := Lib.hid h1
 have H2 := Lib.hid h2
 have HLC := Lib.hid hlc
 clear hE h1 h2 hlc h4 h5 h6
 go_enter Tryz.func30, Tryz.ntmps30
 go_wp2_with fail
 refine q1.mono ?_
 rintro e w1 ⟨y, rfl, hy, hei, hb1⟩
 have HR1 := Lib.hid (rg_keep hr hg hb1)
 have HEI := Lib.hid hei
 have HY := Lib.hid hy
 clear q1 hr hei hy
 go_wp2_with (first
  | (refine wpList_rowStore row_ent rfl rfl (.tmp 8) (.tmp 16) rfl rfl (vs := ecsX y) rfl rfl HY.out.one (us := ecs entZ (.slice none 0 0) (.slice none 0 0) (.slice none 0 0) (.slice none 0 0)) rfl (Blk.new' (by simp)) ?_; intro w5 N5 m5; have hb5 : Below w1.heap.size w1 w5 := Below.mod (Below.allocS (Below.refl _ _) _) m5 (by simp) (by simp); have HN5 := Lib.hid N5; clear m5 N5)
  | (at_builtin; refine wpList_appE rfl (.tmp 22) (.tmp 23) rfl w5.heap.size (.slice none 0 0) [] rfl ⟨rfl, .inl ⟨rfl, rfl⟩⟩ g off E.length cap cs HLC.out rfl (rg_keep HR1.out (Nat.lt_of_lt_of_le hg hb1.size) hb5) (fun z hz => (H2.out z hz).keep (hb1.trans (hb5.mono hb1.size))) (by simp; omega) (Nat.le_refl _) ?_; intro v6 w6 hr6 hb6; rw [List.nil_append] at hr6)
  | (refine wpList_rowLoad row_ent rfl (.tmp 8) rfl rfl (vs := ecsX y) rfl (HN5.out.keep hb6) ?_)
  | (show wpList _ _ _ ({ dst := some 27, op := .buildSlice _ _ _, type := _, pos := _, after := _, guard := _ } :: _) _ _; refine wpList_plain rfl fun K hK => wp_newK 52 (ecsX y).toArray (fun k => .slice (some ⟨k, 0, none⟩) 1 1) (fun W2 => (by kernel_rfl)) ?_; intro k3 w7 hk3 hh3 hl3 hb7; refine hK _ _ ?_; have hr7 := row_keepE hr6 hb7; have HK3 := Lib.hid (Blk.of_heap hh3 hl3); clear hh3)
  | (at_builtin; refine wpList_appE rfl (.tmp 25) (.tmp 27) rfl w5.heap.size _ cs rfl hr7 k3 0 1 1 [y] rfl rfl (by have := HK3.out.range; simpa [List.flatMap_cons] using this) (fun z hz => by rw [List.mem_singleton] at hz; subst hz; exact ((HY.out.keep hb5).keep (hb6.mono (Nat.le_refl _))).keep hb7) (by have := HLC.out; omega) (by have := hb6.size; have := hb7.size; omega) ?_; intro v8 w8 hr8 hb8)
  | fail)
 go_ret2
 have hb68 : Below w5.heap.size w5 w8 := (hb6.trans (hb7.mono hb6.size)).trans hb8
 have hb58 := hb5.trans (hb68.mono hb5.size)
 have hbw := hb1.trans (hb58.mono hb1.size)
 refine ⟨v8, (cs ++ [y]).map (·.e), rfl, EL.of_row hr8 (fun z hz => ?_), ⟨by simp, fun i hi => ?_, HE.out.chk⟩, by simp [HLC.out], hbw⟩
 ·rcases List.mem_append.1 hz with hz | hz
  ·exact (H2.out z hz).keep hbw
  ·rw [List.mem_singleton] at hz; subst hz; exact HY.out.keep hb58
 ·rw [List.map_append, H1.out]
  simp only [List.length_map, List.length_append, List.length_cons, List.length_nil] at hi
  by_cases hlt : i < E.length
  ·rw [List.getD_eq_getElem?_getD, List.getElem?_append_left hlt, ← List.getD_eq_getElem?_getD]
   exact HE.out.all i hlt
  ·have : i = E.length := by have := HLC.out; omega
   subst this
   rw [List.getD_eq_getElem?_getD, List.getElem?_append_right (Nat.le_refl _)]
   simpa using HEI.out
end Go.Proofs.YthkpmlfaddlieaaGreatDoor
namespace Go.Proofs.YthkpmlfaddlieaaGreatDoor
open Go.RowKit
theorem tmod_small (x n : Int) (h : 0 < n) : -n < x.tmod n ∧ x.tmod n < n := by
 rw [Int.tmod_eq_emod]
 have h1 := Int.emod_nonneg x (Int.ne_of_gt h)
 have h2 := Int.emod_lt_of_pos x h
 split <;> omega
theorem tmod_twice (x n : Int) (h : 0 < n) : (x.tmod n + n).tmod n = x % n := by
 have hs := tmod_small x n h
 rw [Int.tmod_eq_emod_of_nonneg (by omega), Int.add_emod_right, Int.tmod_eq_emod]
 split
 ·simp
 ·rw [show (x % n - (n.natAbs : Int)) = x % n + n * (-1) from by omega, Int.add_mul_emod_self_left, Int.emod_emod]
def modN (x : Int) (n : Nat) : Nat := (x % (n : Int)).toNat
theorem modN_eq (x : Int) (n : Nat) (h : 0 < n) : ((modN x n : Nat) : Int) = x % (n : Int) := by
 unfold modN
 rw [Int.toNat_of_nonneg (Int.emod_nonneg x (by omega))]
theorem modN_lt (x : Int) (n : Nat) (h : 0 < n) : modN x n < n := by
 have := modN_eq x n h
 have h2 := Int.emod_lt_of_pos x (show (0 : Int) < (n : Int) from by omega)
 omega
theorem below_any (x : Int) (n : Nat) (h0 : 0 < n) (hn : n ≤ 1000000000) (w : World) :
  Calls Tryz.prog 9 #[.int .i64 x, .int .i64 ((n : Int))] w fun e w' => e = .returned (.int .i64 ((modN x n : Int))) ∧ w' = w := by
 have h1 := tmod_small x n (by omega)
 have h2 := tmod_twice x n (by omega)
 rw [← modN_eq x n h0] at h2
 have z : ((n : Int) == 0) = false := by simp; omega
 have z2 : (n : Int) ≠ 0 := by omega
 have w1 : IntKind.i64.wrap (x.tmod n + n) = x.tmod n + n := by rw [IntKind.wrap_i64]; omega
 have hm := modN_lt x n h0
 have w2 : IntKind.i64.wrap (x.tmod n) = x.tmod n := by rw [IntKind.wrap_i64]; omega
 have w3 : IntKind.i64.wrap ((modN x n : Nat) : Int) = ((modN x n : Nat) : Int) := by rw [IntKind.wrap_i64]; omega
 go_enter Tryz.func9, Tryz.ntmps9
 go_wp2_with fail
 all_goals (go_ret; exact ⟨by simp [w1, w2, w3, h2], rfl⟩)
end Go.Proofs.YthkpmlfaddlieaaGreatDoor
namespace Go.Proofs.YthkpmlfaddlieaaGreatDoor
open Go.RowKit Pl
namespace Pl
def fewA (each : Int) (l : List Bs) : Bool := l.all fun x => decide ((x.length : Int) ≤ each)
def fewP (l : List Bs) (n each : Int) : Bool := decide ((l.length : Int) ≤ n) && fewA each l
theorem fewA_drop (each : Int) (l : List Bs) (i : Nat) (hi : i < l.length) : fewA each (l.drop i) = (decide (((l.getD i []).length : Int) ≤ each) && fewA each (l.drop (i + 1))) := by
 rw [dropS l i hi]
 rfl
end Pl
theorem few_any (v : Value) (l : List Bs) (n each : Int) (w : World) (hv : SS w v l) :
  Calls Tryz.prog 31 #[v, .int .i64 n, .int .i64 each] w fun e w' => e = .returned (.bool (fewP l n each)) ∧ Below w.heap.size w w' := by
 generalize hr : fewP l n each = r
 have HR := Lib.hid hr
 clear hr
 obtain ⟨a, c, rfl⟩ := hv.form
 have HV := Lib.hid hv
 have hm := hv.small
 clear hv
 by_cases hn : n < (l.length : Int)
 ·have hd : decide (n < (l.length : Int)) = true := by simpa using hn
  have HZ : Hid (false = r) := Lib.hid (by rw [← HR.out]; have : ¬ (l.length : Int) ≤ n := (by omega); simp [fewP, this])
  go_enter Tryz.func31, Tryz.ntmps31
  go_wp2_with fail
  all_goals (go_ret; exact ⟨by rw [← HZ.out]; rfl, Below.refl _ _⟩)
 ·have hd : decide (n < (l.length : Int)) = false := by simpa using hn
  have HZ : Hid (fewA each l = r) := Lib.hid (by rw [← HR.out]; have : (l.length : Int) ≤ n := (by omega); simp [fewP, this])
  clear HR
  go_enter Tryz.func31, Tryz.ntmps31
  go_wp2_with fail
  go_loopw [7] (fun s7 wr => ∃ i : Nat, i ≤ l.length ∧ s7 = .int .i64 i ∧ Hid (fewA each (l.drop i) = r) ∧ Below w.heap.size w wr) (fun s7 _ => l.length - (intOf s7).toNat)
  case atStart => exact ⟨0, by omega, rfl, Lib.hid HZ.out, Below.refl _ _⟩
  case round =>
   obtain ⟨i, hi, rfl, HI, hb⟩ := hrel
   obtain ⟨wq, h⟩ := Below.nm hb
   subst h
   by_cases hlt : i < l.length
   ·have hlt' : (i : Int) < (l.length : Int) := by omega
    obtain ⟨g, off, rfl, c1⟩ := (HV.out.keep hb).at i hlt
    have hi2 := HI.out
    rw [fewA_drop each l i hlt] at hi2
    generalize hx : l.getD i [] = x at *
    have HX := Lib.hid hx
    clear hx
    by_cases hle : each < (x.length : Int)
    ·have hd2 : decide (each < (x.length : Int)) = true := by simpa using hle
     have HQ : Hid (false = r) := Lib.hid (by rw [← hi2]; have : ¬ (x.length : Int) ≤ each := (by omega); simp [this])
     clear HI hi2 HZ
     go_wp2_with fail
     all_goals (go_ret; exact ⟨by rw [← HQ.out]; rfl, hb⟩)
    ·have hd2 : decide (each < (x.length : Int)) = false := by simpa using hle
     have HQ : Hid (fewA each (l.drop (i + 1)) = r) := Lib.hid (by rw [← hi2]; have : (x.length : Int) ≤ each := (by omega); simp [this])
     clear HI hi2 HZ
     go_wp2_with fail
     exact ⟨⟨i + 1, by omega, by go_num, HQ, hb⟩, by simp [intOf]; omega⟩
   ·obtain rfl : i = l.length := by omega
    have hlt' : ¬ (l.length : Int) < (l.length : Int) := by omega
    have HQ : Hid (true = r) := Lib.hid (by rw [← HI.out]; simp [fewA])
    clear HI HZ
    go_wp2_with fail
    all_goals (go_ret; exact ⟨by rw [← HQ.out]; rfl, hb⟩)
end Go.Proofs.YthkpmlfaddlieaaGreatDoor
namespace Go.Proofs.YthkpmlfaddlieaaGreatDoor
open Go.Maps
namespace Pl
def cntD : List Bs → DataW Unit
 | [] => .map []
 | n :: r => (cntD r).put (.string n) (.lit (.int .i64 (((r.count n + 1 : Nat)) : Int)))
theorem cntD_map : ∀ r, IsMap (cntD r)
 | [] => ⟨[], rfl⟩
 | n :: r => by
  obtain ⟨es, h⟩ := cntD_map r
  unfold cntD
  rw [h]
  exact ⟨_, rfl⟩
theorem cntD_at : ∀ (r : List Bs) (n : Bs), (cntD r).atKey (.string n) (.lit (.int .i64 0)) = .lit (.int .i64 ((r.count n : Nat) : Int))
 | [], n => rfl
 | x :: r, n => by
  unfold cntD
  by_cases h : n = x
  ·subst h
   rw [atKey_put_same (cntD_map r) (by first | trivial | exact rfl | simp [WideAt.IsKeyLit])]
   simp
  ·rw [atKey_put_other (by intro e; injection e with e; exact h e), cntD_at r n]
   rw [List.count_cons_of_ne (fun e => h e.symm)]
end Pl
end Go.Proofs.YthkpmlfaddlieaaGreatDoor
namespace Go.Proofs.YthkpmlfaddlieaaGreatDoor
open Go.RowKit Pl
namespace Pl
def sumM : List (Bs × Int) → Int
 | [] => 0
 | x :: r => x.2 + sumM r
def totM (l : List (Bs × Int)) : Int := if chkM l then sumM l else 0
theorem sumM_app (a : List (Bs × Int)) (x : Bs × Int) : sumM (a ++ [x]) = sumM a + x.2 := by
 induction a with
 | nil => simp [sumM]
 | cons y r ih => simp only [List.cons_append, sumM, ih]; omega
theorem sumM_take (l : List (Bs × Int)) (h : ∀ i, i < l.length → 1 ≤ (l.getD i ([], 0)).2 ∧ (l.getD i ([], 0)).2 ≤ 1000) : ∀ k, k ≤ l.length → (k : Int) ≤ sumM (l.take k) ∧ sumM (l.take k) ≤ 1000 * (k : Int)
 | 0, _ => by simp [sumM]
 | k + 1, hk => by
  have h1 := sumM_take l h k (by omega)
  have h2 := h k (by omega)
  rw [take_getD l k (by omega), sumM_app]
  omega
theorem totM_bound (l : List (Bs × Int)) : 0 ≤ totM l ∧ totM l ≤ 7000 := by
 unfold totM
 split
 ·rename_i hc
  simp only [chkM, Bool.and_eq_true, decide_eq_true_eq] at hc
  have h := sumM_take l (fun i hi => (okM_at l [] hc.2 i hi).2) l.length (by omega)
  rw [List.take_length] at h
  omega
 ·omega
end Pl
theorem mtotal_any (v : Value) (l : List (Bs × Int)) (w : World) (hv : MS w v l) :
  Calls Tryz.prog 13 #[v] w fun e w' => e = .returned (.int .i64 (totM l)) ∧ Below w.heap.size w w' := by
 generalize hr : totM l = r
 have HR := Lib.hid hr
 clear hr
 obtain ⟨a, c, rfl⟩ := hv.form
 have hm := hv.small
 have hchk := mcheck_any _ l w hv
 have HV := Lib.hid hv
 clear hv
 cases hc : chkM l
 ·rw [hc] at hchk
  have HC := Lib.hid hchk
  have HR2 : Hid (0 = r) := Lib.hid (by rw [← HR.out]; simp [totM, hc])
  clear hchk hc HR HV
  go_enter Tryz.func13, Tryz.ntmps13
  go_wp2_with fail
  refine HC.out.mono ?_
  rintro e w1 ⟨rfl, hb⟩
  unfold setI
  go_wp2_with fail
  all_goals (go_ret; refine ⟨?_, hb⟩; rw [← HR2.out]; rfl)
 ·rw [hc] at hchk
  have HC := Lib.hid hchk
  have HR2 : Hid (sumM l = r) := Lib.hid (by rw [← HR.out]; simp [totM, hc])
  simp only [chkM, Bool.and_eq_true, decide_eq_true_eq] at hc
  have h7 := hc.1.2
  have HB := Lib.hid (sumM_take l (fun i hi => (okM_at l [] hc.2 i hi).2))
  have HO := Lib.hid (okM_at l [] hc.2)
  clear hchk hc HR
  go_enter Tryz.func13, Tryz.ntmps13
  go_wp2_with fail
  refine HC.out.mono ?_
  rintro e w1 ⟨rfl, hb⟩
  unfold setI
  go_wp2_with fail
  go_loopw [3, 11] (fun s3 s11 wr => ∃ i : Nat, i ≤ l.length ∧ s11 = .int .i64 i ∧ s3 = .int .i64 (sumM (l.take i)) ∧ Below w.heap.size w wr) (fun _ s11 _ => l.length - (intOf s11).toNat)
  case atStart => exact ⟨0, by omega, rfl, by simp [sumM], hb⟩
  case round =>
   obtain ⟨i, hi, rfl, rfl, hb⟩ := hrel
   obtain ⟨wq, h⟩ := Below.nm hb
   subst h
   by_cases hlt : i < l.length
   ·obtain ⟨g, off, rfl, hg, c1, c2⟩ := (HV.out.keep hb).at i hlt
    obtain ⟨o1, o2, o3⟩ := HO.out i hlt
    have hB := HB.out i (by omega)
    have hnx : sumM (l.take (i + 1)) = sumM (l.take i) + (l.getD i ([], 0)).2 := by rw [take_getD l i hlt, sumM_app]
    generalize hx : l.getD i ([], 0) = x at *
    obtain ⟨n, p⟩ := x
    simp only at c1 c2 hnx o1 o2 o3
    generalize sumM (l.take i) = s at *
    have q1 : IntKind.i64.wrap (s + p) = s + p := IntWalk.i64_in _ (by omega)
    clear hx HB HO
    go_wp2_with fail
    exact ⟨⟨i + 1, by omega, by go_num, by rw [hnx], Below.allocS hb _⟩, by simp [intOf]; omega⟩
   ·obtain rfl : i = l.length := by omega
    go_wp2_with fail
    all_goals (go_ret; refine ⟨?_, hb⟩; rw [← HR2.out]; simp)
namespace Pl
def quoM (l : List (Bs × Int)) : Int := if totM l = 0 then 0 else (2 * totM l).tdiv 3 + 1
def mostM (l : List (Bs × Int)) : Int := if totM l = 0 then 0 else (totM l - 1).tdiv 3
end Pl
theorem mquorum_any (v : Value) (l : List (Bs × Int)) (w : World) (hv : MS w v l) :
  Calls Tryz.prog 77 #[v] w fun e w' => e = .returned (.int .i64 (quoM l)) ∧ Below w.heap.size w w' := by
 have ht := mtotal_any v l w hv
 have hbd := totM_bound l
 unfold quoM
 have HT := Lib.hid ht
 obtain ⟨a, c, rfl⟩ := hv.form
 clear ht hv
 generalize totM l = t at *
 by_cases h0 : t = 0
 ·subst h0
  go_enter Tryz.func77, Tryz.ntmps77
  go_wp2_with fail
  refine HT.out.mono ?_
  rintro e w1 ⟨rfl, hb⟩
  go_wp2_with fail
  all_goals (go_ret; exact ⟨rfl, hb⟩)
 ·rw [if_neg h0]
  have h1 : (t == 0) = false := by simpa using h0
  have q1 : IntKind.i64.wrap (2 * t) = 2 * t := IntWalk.i64_in _ (by omega)
  have q0 : (2 * t).tdiv 3 = 2 * t / 3 := Int.tdiv_eq_ediv_of_nonneg (by omega)
  have q2 : IntKind.i64.wrap ((2 * t).tdiv 3) = (2 * t).tdiv 3 := IntWalk.i64_in _ (by omega)
  have q3 : IntKind.i64.wrap ((2 * t).tdiv 3 + 1) = (2 * t).tdiv 3 + 1 := IntWalk.i64_in _ (by omega)
  clear q0
  go_enter Tryz.func77, Tryz.ntmps77
  go_wp2_with fail
  refine HT.out.mono ?_
  rintro e w1 ⟨rfl, hb⟩
  go_wp2_with fail
  all_goals (go_ret; exact ⟨rfl, hb⟩)
end Go.Proofs.YthkpmlfaddlieaaGreatDoor
namespace Go.Proofs.YthkpmlfaddlieaaGreatDoor
open Go.RowKit Go.WideMaps Go.Maps Pl
theorem keyedS : Keyed Tryz.prog 9 := string_keyed Tryz.underlying9
theorem zeroI (w : World) : (zeroValue 3).run Tryz.prog w = .ok (.int .i64 0) w := by kernel_rfl
namespace Pl
def sumOf (names : List Bs) : List (Bs × Int) → Int
 | [] => 0
 | x :: r => (if names.contains x.1 then x.2 else 0) + sumOf names r
theorem sumOf_app (names : List Bs) (a : List (Bs × Int)) (x : Bs × Int) : sumOf names (a ++ [x]) = sumOf names a + (if names.contains x.1 then x.2 else 0) := by
 induction a with
 | nil => simp [sumOf]
 | cons y r ih => simp only [List.cons_append, sumOf, ih]; omega
theorem sumOf_take (names : List Bs) (l : List (Bs × Int)) (h : ∀ i, i < l.length → 1 ≤ (l.getD i ([], 0)).2 ∧ (l.getD i ([], 0)).2 ≤ 1000) : ∀ k, k ≤ l.length → 0 ≤ sumOf names (l.take k) ∧ sumOf names (l.take k) ≤ 1000 * (k : Int)
 | 0, _ => by simp [sumOf]
 | k + 1, hk => by
  have h1 := sumOf_take names l h k (by omega)
  have h2 := h k (by omega)
  rw [take_getD l k (by omega), sumOf_app]
  split <;> omega
def ofM (l : List (Bs × Int)) (names : List Bs) : Int := if chkM l then sumOf names l else 0
end Pl
theorem ownsMap_keep {H : Type} {R : Value → Option (DataW H × List MemPlace)} {W w : World} {t : TypeId} {b n : Nat} {D : DataW H} (h : W.ownsMap Tryz.prog t R b n D) (hb : Below W.heap.size W w) : w.ownsMap Tryz.prog t R b n D := by
 obtain ⟨es, clock, h1, h2⟩ := h
 refine ⟨es, clock, (hb.block b ?_).trans h1, h2⟩
 rcases Nat.lt_or_ge b W.heap.size with hlt | hge
 ·exact hlt
 ·rw [Array.getElem?_eq_none hge] at h1; cases h1
theorem mof_any (v u : Value) (l : List (Bs × Int)) (names : List Bs) (hn : names.length ≤ 1000) (hnl : ∀ i, i < names.length → (names.getD i []).length ≤ maxLen) (w : World) (hv : MS w v l) (hu : SS w u names) :
  Calls Tryz.prog 11 #[v, u] w fun e w' => e = .returned (.int .i64 (ofM l names)) ∧ Below w.heap.size w w' := by
 have hmm := @run_makeMap Tryz.prog
 generalize hr : ofM l names = r
 have HR := Lib.hid hr
 clear hr
 obtain ⟨a, c, rfl⟩ := hv.form
 obtain ⟨b, d, rfl⟩ := hu.form
 have hm := hv.small
 have hchk := mcheck_any _ l w hv
 have HV := Lib.hid hv
 have HU := Lib.hid hu
 clear hv hu
 cases hc : chkM l
 ·rw [hc] at hchk
  have HC := Lib.hid hchk
  have HR2 : Hid (0 = r) := Lib.hid (by rw [← HR.out]; simp [ofM, hc])
  clear hchk hc HR HV HU
  go_enter Tryz.func11, Tryz.ntmps11
  go_wp2_with fail
  refine HC.out.mono ?_
  rintro e w1 ⟨rfl, hb⟩
  unfold setI
  go_wp2_with fail
  all_goals (go_ret; refine ⟨?_, hb⟩; rw [← HR2.out]; rfl)
 ·rw [hc] at hchk
  have HC := Lib.hid hchk
  have HR2 : Hid (sumOf names l = r) := Lib.hid (by rw [← HR.out]; simp [ofM, hc])
  clear hchk HR
  go_enter Tryz.func11, Tryz.ntmps11
  go_wp2_with fail
  refine HC.out.mono ?_
  rintro e w1 ⟨rfl, hb⟩
  unfold setI
  go_wp2_with fail
  have hb1 := hb.alloc hb.size (Obj.map #[] 0)
  go_loopw [17] (fun s17 wr => ∃ i : Nat, i ≤ names.length ∧ s17 = .int .i64 i ∧ wr.ownsMap Tryz.prog 9 (plainElem Tryz.prog 3) w1.heap.size i (cntD (names.take i).reverse) ∧ Below w1.heap.size w1 wr) (fun s17 _ => names.length - (intOf s17).toNat)
  case atStart => exact ⟨0, by omega, rfl, World.ownsMap_made _ _ _ _, (Below.refl _ _).alloc (Nat.le_refl _) _⟩
  case round =>
   obtain ⟨i, hi, rfl, hown, hbm⟩ := hrel
   by_cases hlt : i < names.length
   ·obtain ⟨g, off, rfl, c1⟩ := (HU.out.keep (hb.trans (hbm.mono hb.size))).at i hlt
    have hnx : cntD (names.take (i + 1)).reverse = (cntD (names.take i).reverse).put (.string (names.getD i [])) (.lit (.int .i64 ((((names.take i).reverse.count (names.getD i []) + 1 : Nat)) : Int))) := by
     rw [List.take_succ_eq_append_getElem hlt, List.reverse_append]
     simp [cntD, List.getD, List.getElem?_eq_getElem hlt]
    have hkey : keyOf Tryz.prog 9 (.string ⟨List.toArray (names.getD i [])⟩) = some (.string (names.getD i [])) := keyOf_string_mk Tryz.underlying9 (by simpa [ByteArray.size] using hnl i hlt)
    generalize names.getD i [] = n at *
    obtain ⟨k, hrun, hat, _⟩ := hown.lookup_int keyedS Tryz.underlying102 Tryz.underlying3 (zeroI _) hkey
    have hkc : k = ((names.take i).reverse.count n : Nat) := by
     rw [cntD_at] at hat
     injection hat with hat
     injection hat with _ hat
     exact hat.symm
    have hcl : (names.take i).reverse.count n ≤ i := Nat.le_trans (List.count_le_length) (by simp; omega)
    have q1 : IntKind.i64.wrap (k + 1) = k + 1 := IntWalk.i64_in _ (by omega)
    have hnx2 : cntD (names.take (i + 1)).reverse = (cntD (names.take i).reverse).put (.string n) (.lit (.int .i64 (k + 1))) := by rw [hnx, hkc]; rfl
    have hwf : (Lit.int .i64 (k + 1)).wf = true := by have h := wrap64_wf (k + 1); rw [← IntWalk.i64_left, q1] at h; exact h
    clear hnx hat hkc HU HV HC
    go_wp2_with (first
     | (at_mapUpdate; refine wpList_mapUpdate_own _ rfl _ _ _ 102 rfl 9 3 keyedS Tryz.underlying102 _ w1.heap.size i _ rfl hown (by unfold maxLen; omega) _ _ _ rfl rfl hkey _ [] (plainElem_int Tryz.underlying3 hwf) ?_)
     | go_in)
    intro w2 hown2 hgrow
    have R1 := hnx2.symm ▸ hown2
    have R2 := hbm.grown hgrow hbm.size (fun j hj => by cases hj; exact Nat.le_refl _)
    clear hown2 hgrow hown hrun
    go_wp2_with fail
    exact ⟨⟨i + 1, by omega, by go_num, R1, R2⟩, by simp [intOf]; omega⟩
   ·obtain rfl : i = names.length := by omega
    obtain ⟨wq, h⟩ := Below.nm hbm
    subst h
    rw [List.take_length] at hown
    have hbq := hb.trans (hbm.mono hb.size)
    simp only [chkM, Bool.and_eq_true, decide_eq_true_eq] at hc
    have h7 := hc.1.2
    have HO := Lib.hid (okM_at l [] hc.2)
    have HB := Lib.hid (sumOf_take names l (fun i hi => (okM_at l [] hc.2 i hi).2))
    clear hc
    go_wp2_with fail
    go_loopw [8, 28] (fun s8 s28 wr => ∃ j : Nat, j ≤ l.length ∧ s28 = .int .i64 j ∧ s8 = .int .i64 (sumOf names (l.take j)) ∧ Below wq.heap.size wq wr) (fun _ s28 _ => l.length - (intOf s28).toNat)
    case atStart => exact ⟨0, by omega, rfl, by simp [sumOf], Below.refl _ _⟩
    case round =>
     obtain ⟨j, hj, rfl, rfl, hbj⟩ := hrel
     by_cases hlt : j < l.length
     ·obtain ⟨wr, h⟩ := Below.nm hbj
      subst h
      obtain ⟨g, off, rfl, hg, c1, c2⟩ := (HV.out.keep (hbq.trans (hbj.mono hbq.size))).at j hlt
      obtain ⟨o1, o2, o3⟩ := HO.out j hlt
      have hB := HB.out j (by omega)
      have hnx : sumOf names (l.take (j + 1)) = sumOf names (l.take j) + (if names.contains (l.getD j ([], 0)).1 then (l.getD j ([], 0)).2 else 0) := by rw [take_getD l j hlt, sumOf_app]
      generalize hx : l.getD j ([], 0) = x at *
      obtain ⟨n, q⟩ := x
      simp only at c1 c2 hnx o1 o2 o3
      generalize sumOf names (l.take j) = s at *
      have hown2 := ownsMap_keep hown (Below.allocS hbj (.cells #[.string ⟨n.toArray⟩, .int .i64 q] 77))
      have hkey : keyOf Tryz.prog 9 (.string ⟨n.toArray⟩) = some (.string n) := keyOf_string_mk Tryz.underlying9 (by unfold maxLen; simp [ByteArray.size]; omega)
      obtain ⟨k, hrun, hat, _⟩ := hown2.lookup_int keyedS Tryz.underlying102 Tryz.underlying3 (zeroI _) hkey
      have hkc : k = (names.count n : Nat) := by
       rw [cntD_at, List.count_reverse] at hat
       injection hat with hat
       injection hat with _ hat
       exact hat.symm
      have q1 : IntKind.i64.wrap (s + q) = s + q := IntWalk.i64_in _ (by omega)
      clear hx hB HB HO hat hown2
      cases hin : names.contains n
      ·rw [hin] at hnx
       have hk0 : decide ((0 : Int) < k) = false := by
        have : names.count n = 0 := List.count_eq_zero.2 (by simpa using hin)
        rw [hkc, this]; rfl
       clear hkc
       go_wp2_with fail
       exact ⟨⟨j + 1, by omega, by go_num, by rw [hnx]; simp, Below.allocS hbj _⟩, by simp [intOf]; omega⟩
      ·rw [hin] at hnx
       have hk0 : decide ((0 : Int) < k) = true := by
        have : 0 < names.count n := List.count_pos_iff.2 (by simpa using hin)
        rw [hkc, decide_eq_true_iff]; omega
       clear hkc
       go_wp2_with fail
       exact ⟨⟨j + 1, by omega, by go_num, by rw [hnx]; simp, Below.allocS hbj _⟩, by simp [intOf]; omega⟩
     ·obtain rfl : j = l.length := by omega
      go_wp2_with fail
      all_goals (go_ret; refine ⟨?_, hbq.trans (hbj.mono hbq.size)⟩; rw [← HR2.out]; simp)
end Go.Proofs.YthkpmlfaddlieaaGreatDoor
namespace Go.Proofs.YthkpmlfaddlieaaGreatDoor
open Go.RowKit Go.WideMaps Go.Maps Pl
theorem laidG : laidOutB Tryz.prog = true := by kernel_rfl
theorem rowG : (109 : TypeId) < Tryz.prog.types.size := of_decide_eq_true (by kernel_rfl)
theorem wideG : (match Tryz.prog.underlying 109 with | some (.array _ _) | some (.struct _) => true | _ => false) = true := by kernel_rfl
theorem keyedG : Keyed Tryz.prog 109 := Keyed.of_law (deep_law_laid laidG (m := 3) (by omega) rowG (by kernel_rfl) wideG)
theorem typesG : ∃ n, Tryz.prog.types.size = n + 1 + 1 := ⟨Tryz.prog.types.size - 2, by kernel_rfl⟩
def kG (who mark : Bs) : Lit := .string (keyBytes [.string who, .string mark, .bool false])
theorem keyG (who mark : Bs) (h1 : who.length ≤ maxLen) (h2 : mark.length ≤ maxLen) : keyOf Tryz.prog 109 (.agg #[.string ⟨who.toArray⟩, .string ⟨mark.toArray⟩, .bool false]) = some (kG who mark) := by
 have hf : (Value.agg #[.string ⟨who.toArray⟩, .string ⟨mark.toArray⟩, .bool false]).formed Tryz.prog 109 = true := by
  have hc : Tryz.prog.cellsOf 109 = 3 := by kernel_rfl
  simp [Value.formed, Tryz.underlying109, hc]
 have hk : Tryz.prog.keyType 109 = true := by kernel_rfl
 obtain ⟨n, hn⟩ := typesG
 have hc : Tryz.prog.cellsOf 109 = 3 := by kernel_rfl
 have hs : Tryz.prog.cellsOf 9 = 1 := by kernel_rfl
 have hb : Tryz.prog.cellsOf 4 = 1 := by kernel_rfl
 have z1 : (⟨who.toArray⟩ : ByteArray).size ≤ maxLen := by simpa [ByteArray.size] using h1
 have z2 : (⟨mark.toArray⟩ : ByteArray).size ≤ maxLen := by simpa [ByteArray.size] using h2
 unfold keyOf
 rw [hn]
 simp [Tryz.underlying109, Tryz.underlying9, Tryz.underlying4, hf, hk, Program.keyLits, Value.cells, hc, hs, hb, z1, z2, kG]
theorem kG_inj {a b c d : Bs} (h1 : a.length ≤ maxLen) (h2 : b.length ≤ maxLen) (h3 : c.length ≤ maxLen) (h4 : d.length ≤ maxLen) (h : kG a b = kG c d) : a = c ∧ b = d := by
 have e1 := keyG a b h1 h2
 have e2 := keyG c d h3 h4
 rw [h] at e1
 have := keyedG.inj e1 e2
 injection this with this
 simpa using this
abbrev Sg := Bs × Bs × Bool
def keyOfS (x : Sg) : Bs × Bs := (x.1, x.2.1)
def idxD : List (Bs × Bs) → DataW Unit
 | [] => .map []
 | x :: r => (idxD r).put (kG x.1 x.2) (.lit (.int .i64 (r.length : Int)))
theorem idxD_map : ∀ r, IsMap (idxD r)
 | [] => ⟨[], rfl⟩
 | x :: r => (idxD_map r).put _ _
def Short (x : Bs × Bs) : Prop := x.1.length ≤ maxLen ∧ x.2.length ≤ maxLen
theorem idxD_has : ∀ (r : List (Bs × Bs)) (x : Bs × Bs), (∀ y ∈ r, Short y) → Short x → has (idxD r) (kG x.1 x.2) = decide (x ∈ r)
 | [], x, _, _ => by simp [idxD, has]
 | y :: r, x, h, hx => by
  have hy := h y (by simp)
  unfold idxD
  by_cases e : x = y
  ·subst e
   rw [has_put_same (idxD_map r) (by first | trivial | exact rfl | simp [WideAt.IsKeyLit])]
   simp
  ·rw [has_put_other (fun e2 => e (by obtain ⟨e3, e4⟩ := kG_inj hx.1 hx.2 hy.1 hy.2 e2; exact Prod.ext e3 e4)), idxD_has r x (fun z hz => h z (by simp [hz])) hx]
   simp [e]
def idxOf : List (Bs × Bs) → Bs × Bs → Nat
 | [], _ => 0
 | y :: r, x => if x = y then r.length else idxOf r x
theorem idxD_at : ∀ (r : List (Bs × Bs)) (x : Bs × Bs), (∀ y ∈ r, Short y) → Short x → (idxD r).atKey (kG x.1 x.2) (.lit (.int .i64 0)) = .lit (.int .i64 (idxOf r x : Int))
 | [], x, _, _ => rfl
 | y :: r, x, h, hx => by
  have hy := h y (by simp)
  unfold idxD idxOf
  by_cases e : x = y
  ·subst e
   rw [atKey_put_same (idxD_map r) (by first | trivial | exact rfl | simp [WideAt.IsKeyLit]), if_pos rfl]
  ·rw [atKey_put_other (fun e2 => e (by obtain ⟨e3, e4⟩ := kG_inj hx.1 hx.2 hy.1 hy.2 e2; exact Prod.ext e3 e4)), idxD_at r x (fun z hz => h z (by simp [hz])) hx, if_neg e]
theorem infoG : (Tryz.prog.info? 109).map (fun i => (i.zero, i.size, i.bytes)) = some (some (.agg #[.string ⟨#[]⟩, .string ⟨#[]⟩, .bool false]), 3, 40) := by kernel_rfl
def gv : List Sg → List Value
 | [] => []
 | x :: r => .string ⟨List.toArray x.1⟩ :: .string ⟨List.toArray x.2.1⟩ :: .bool x.2.2 :: gv r
theorem gv_len (l : List Sg) : (gv l).length = l.length * 3 := by
 induction l with
 | nil => rfl
 | cons x r ih => simp only [gv, List.length_cons, ih]; omega
theorem gv_app (a b : List Sg) : gv (a ++ b) = gv a ++ gv b := by
 induction a with
 | nil => rfl
 | cons x r ih => simp [gv, ih]
abbrev sg0' : Sg := ([], [], false)
theorem gv_at : ∀ (l : List Sg) (i : Nat), i < l.length → (gv l)[i * 3]? = some (.string ⟨List.toArray ((l.getD i sg0').1)⟩) ∧ (gv l)[i * 3 + 1]? = some (.string ⟨List.toArray ((l.getD i sg0').2.1)⟩) ∧ (gv l)[i * 3 + 2]? = some (.bool (l.getD i sg0').2.2)
 | x :: r, 0, _ => ⟨rfl, rfl, rfl⟩
 | x :: r, i + 1, hi => by
  have h := gv_at r i (by simpa using hi)
  rw [show (i + 1) * 3 = i * 3 + 1 + 1 + 1 from by omega]
  simpa [gv] using h
theorem gone : ∀ (l : List Sg), ∀ u ∈ gv l, u.oneCell' = true
 | [], u, h => by simp [gv] at h
 | x :: r, u, h => by
  simp only [gv, List.mem_cons] at h
  rcases h with rfl | rfl | rfl | h
  ·rfl
  ·rfl
  ·rfl
  ·exact gone r u h
def GSrc (w : World) (g o : Nat) (l : List Sg) : Prop := ∀ i, i < l.length → w.cell? ⟨g, o + i * 3, none⟩ = some (.string ⟨List.toArray ((l.getD i sg0').1)⟩) ∧ w.cell? ⟨g, o + i * 3 + 1, none⟩ = some (.string ⟨List.toArray ((l.getD i sg0').2.1)⟩) ∧ w.cell? ⟨g, o + i * 3 + 2, none⟩ = some (.bool (l.getD i sg0').2.2)
def GRow (w : World) (base : Nat) (v : Value) (l : List Sg) : Prop := w.ownsRow base 109 3 v l.length (gv l)
theorem GRow.nil (w : World) (base : Nat) : GRow w base (.slice none 0 0) [] := ⟨rfl, .inl ⟨rfl, rfl⟩⟩
theorem GRow.cells {w : World} {base : Nat} {v : Value} {l : List Sg} (h : GRow w base v l) :
  (v = .slice none 0 0 ∧ l = []) ∨ ∃ g cap, v = .slice (some ⟨g, 0, none⟩) l.length cap ∧ base ≤ g ∧ g < w.heap.size ∧ l.length ≤ cap ∧ cap ≤ maxLen ∧ GSrc w g 0 l ∧ ∀ o, w.frozen? ⟨g, o, none⟩ = false := by
 rcases h.2 with ⟨h1, h2⟩ | ⟨g, cap, cur, hv, hb, hg, hn, hm, hc, ht⟩
 ·exact .inl ⟨h1, List.length_eq_zero_iff.1 h2⟩
 ·refine .inr ⟨g, cap, hv, hb, ?_, hn, hm, fun i hi => ?_, fun o => ?_⟩
  ·rcases Nat.lt_or_ge g w.heap.size with hlt | hge
   ·exact hlt
   ·rw [Array.getElem?_eq_none hge] at hg; cases hg
  ·have h1 : ∀ j, j < l.length * 3 → w.cell? ⟨g, 0 + j, none⟩ = (gv l)[j]? := by
    intro j hj
    rw [← ht, List.getElem?_take, if_pos hj]
    simp [World.cell?, hg]
   obtain ⟨h2, h3, h4⟩ := gv_at l i hi
   exact ⟨(h1 (i * 3) (by omega)).trans h2, (h1 (i * 3 + 1) (by omega)).trans h3, (h1 (i * 3 + 2) (by omega)).trans h4⟩
  ·simp [World.frozen?, hg]
theorem GRow.form {w : World} {base : Nat} {v : Value} {l : List Sg} (h : GRow w base v l) : ∃ (a : Option Addr) (cap : Nat), v = .slice a l.length cap := by
 rcases h.cells with ⟨rfl, rfl⟩ | ⟨g, cap, rfl, _⟩
 ·exact ⟨none, 0, rfl⟩
 ·exact ⟨_, cap, rfl⟩
theorem GRow.own {w : World} {base : Nat} {v : Value} {l : List Sg} (h : GRow w base v l) : ∀ k, v.ownBlock = some k → base ≤ k ∧ k < w.heap.size := by
 intro k hk
 rcases h.cells with ⟨rfl, _⟩ | ⟨g, cap, rfl, hb, hg, _⟩
 ·cases hk
 ·cases hk; exact ⟨hb, hg⟩
theorem GRow.kept {w w' : World} {base : Nat} {v : Value} {l : List Sg} (h : GRow w base v l) (hb : ∀ k, v.ownBlock = some k → w'.heap[k]? = w.heap[k]?) : GRow w' base v l := by
 refine ⟨h.1, h.2.imp id ?_⟩
 rintro ⟨g, cap, cur, hv, h1, h2, h3⟩
 subst hv
 exact ⟨g, cap, cur, rfl, h1, (hb g rfl).trans h2, h3⟩
theorem GRow.keep {W w : World} {b : Nat} {v : Value} {l : List Sg} (h : GRow W b v l) (hb : Below W.heap.size W w) : GRow w b v l :=
 h.kept (fun k hk => hb.block k (h.own k hk).2)
theorem GRow.mod {w w' : World} {b : Nat} {v : Value} {l : List Sg} (h : GRow w b v l) {m : List Nat} (hm : Mod m w w') (hp : ∀ k, v.ownBlock = some k → k ∉ m) : GRow w' b v l :=
 h.kept (fun k hk => hm.block k (h.own k hk).2 (hp k hk))
theorem gsrc1 (w : World) (a b : Bs) (c : Bool) (t : TypeId) : GSrc (w.alloc (.cells #[.string ⟨a.toArray⟩, .string ⟨b.toArray⟩, .bool c] t)) w.heap.size 0 [(a, b, c)] := by
 intro i hi
 have : i = 0 := by simp at hi; omega
 subst this
 exact ⟨by simp, by simp, by simp⟩
theorem gsrc_news {w : World} {g o : Nat} {l : List Sg} (h : GSrc w g o l) : ∀ j u, (gv l)[j]? = some u → w.cell? ((⟨g, o, none⟩ : Addr).add j) = some u := by
 intro j u hj
 have hjl : j < l.length * 3 := by
  rcases Nat.lt_or_ge j (l.length * 3) with hlt | hge
  ·exact hlt
  ·rw [List.getElem?_eq_none (by rw [gv_len]; exact hge)] at hj; cases hj
 have hadd : (⟨g, o, none⟩ : Addr).add j = ⟨g, o + j, none⟩ := by unfold Addr.add; split <;> simp_all
 rw [hadd]
 obtain ⟨i, hi | hi | hi⟩ : ∃ i, j = i * 3 ∨ j = i * 3 + 1 ∨ j = i * 3 + 2 := ⟨j / 3, by omega⟩
 ·subst hi
  exact (h i (by omega)).1.trans (((gv_at l i (by omega)).1).symm.trans hj)
 ·subst hi
  have := (h i (by omega)).2.1
  rw [Nat.add_assoc] at this
  exact this.trans (((gv_at l i (by omega)).2.1).symm.trans hj)
 ·subst hi
  have := (h i (by omega)).2.2
  rw [Nat.add_assoc] at this
  exact this.trans (((gv_at l i (by omega)).2.2).symm.trans hj)
def Tab (w : World) (base p : Nat) (L : List Sg) : Prop :=
 ∃ b sv, base ≤ b ∧ b < p ∧ Blk w p #[.map (some b), sv] ∧ w.ownsMap Tryz.prog 109 (plainElem Tryz.prog 3) b L.length (idxD (L.map keyOfS).reverse) ∧ GRow w (p + 1) sv L ∧ ∀ x ∈ L, x.1.length ≤ 6 ∧ x.2.1.length = 32
theorem Tab.keep {W w : World} {base p : Nat} {L : List Sg} (h : Tab W base p L) (hb : Below W.heap.size W w) : Tab w base p L := by
 obtain ⟨b, sv, h1, h2, h3, h4, h5, h6⟩ := h
 exact ⟨b, sv, h1, h2, h3.keep hb, ownsMap_keep h4 hb, h5.keep hb, h6⟩
theorem Tab.lt {w : World} {base p : Nat} {L : List Sg} (h : Tab w base p L) : p < w.heap.size ∧ base ≤ p := by
 obtain ⟨b, sv, h1, h2, h3, _⟩ := h
 exact ⟨h3.lt, by omega⟩
theorem short_of {a b : Bs} (h1 : a.length ≤ 1000) (h2 : b.length ≤ 1000) : Short (a, b) := ⟨by unfold maxLen; simp; omega, by unfold maxLen; simp; omega⟩
theorem onew_any (w : World) :
  Calls Tryz.prog 26 #[] w fun e w' => e = .returned (.pointer (some ⟨w.heap.size + 1, 0, none⟩)) ∧ Tab w' w.heap.size (w.heap.size + 1) [] ∧ Below w.heap.size w w' := by
 have hmm := @run_makeMap Tryz.prog
 have hown : (w.alloc (.map #[] 0)).ownsMap (H := Unit) Tryz.prog 109 (plainElem Tryz.prog 3) w.heap.size 0 (.map []) := World.ownsMap_made _ _ _ _
 go_enter Tryz.func26, Tryz.ntmps26
 go_wp2_with fail
 go_ret
 refine ⟨rfl, ⟨w.heap.size, .slice none 0 0, Nat.le_refl _, by omega, ?_, hown.alloc _, GRow.nil _ _, fun x h => by simp at h⟩, ?_⟩
 ·exact Blk.new' (by simp)
 ·exact Below.allocS ((Below.refl _ _).alloc (Nat.le_refl _) _) _
theorem okey_any (who mark : Bs) (w : World) :
  Calls Tryz.prog 43 #[.string ⟨who.toArray⟩, .string ⟨mark.toArray⟩] w fun e w' => e = .returned (.agg #[.string ⟨who.toArray⟩, .string ⟨mark.toArray⟩, .bool false]) ∧ Below w.heap.size w w' := by
 have B0 : Blk (w.alloc (.cells #[.string ⟨List.toArray []⟩, .string ⟨List.toArray []⟩, .bool false] 109)) w.heap.size #[.string ⟨List.toArray []⟩, .string ⟨List.toArray []⟩, .bool false] := Blk.new _ _ _
 go_enter Tryz.func43, Tryz.ntmps43
 go_wp2_with fail
 refine bodyPost_ret (results_cell1 rfl _ _ _ _ rfl (row_loadVar (vs := [.string ⟨who.toArray⟩, .string ⟨mark.toArray⟩, .bool false]) (RowT.mk' Tryz.underlying109 rfl (by kernel_rfl)) _ rfl (Blk.new _ _ _))) rfl ?_
 exact ⟨rfl, by (repeat (first | exact Below.refl _ _ | assumption | apply Below.drew | apply below_drewN | apply Below.allocS | (refine Below.setCell ?_ (by simp <;> omega) _) | (refine Below.alloc ?_ (by simp <;> omega) _) | (refine Below.trans ?_ (Below.mono (by assumption) (by simp <;> omega)))))⟩
def isIn (L : List Sg) (who mark : Bs) : Bool := decide ((who, mark) ∈ L.map keyOfS)
theorem Tab.look {w : World} {base p b : Nat} {L : List Sg} {who mark : Bs} (h4 : w.ownsMap Tryz.prog 109 (plainElem Tryz.prog 3) b L.length (idxD (L.map keyOfS).reverse)) (h6 : ∀ x ∈ L, x.1.length ≤ 6 ∧ x.2.1.length = 32) (hw : who.length ≤ 1000) (hm : mark.length ≤ 1000) :
  (Instr.lookup 104 (.map (some b)) (.agg #[.string ⟨who.toArray⟩, .string ⟨mark.toArray⟩, .bool false]) true).run Tryz.prog w = .ok (.tuple #[.int .i64 ((idxOf (L.map keyOfS).reverse (who, mark) : Int)), .bool (isIn L who mark)]) w := by
 have hs := short_of hw hm
 have hsh : ∀ y ∈ (L.map keyOfS).reverse, Short y := by
  intro y hy
  simp only [List.mem_reverse, List.mem_map] at hy
  obtain ⟨x, hx, rfl⟩ := hy
  obtain ⟨q1, q2⟩ := h6 x hx
  exact short_of (by omega) (by omega)
 obtain ⟨v, ps, hrun, hR⟩ := h4.look_ok keyedG Tryz.underlying104 (zeroI _) (plainElem_int Tryz.underlying3 (by decide)) (keyG who mark hs.1 hs.2)
 rw [idxD_at _ (who, mark) hsh hs] at hR
 obtain ⟨c, rfl, hc, _⟩ := plainElem_int_inv Tryz.underlying3 hR
 rw [hrun, idxD_has _ (who, mark) hsh hs]
 injection hc with hc _
 injection hc with hc
 injection hc with _ hc
 rw [← hc]
 simp [isIn]
theorem osigned_any (base p : Nat) (L : List Sg) (who mark : Bs) (hw : who.length ≤ 1000) (hm : mark.length ≤ 1000) (w : World) (hT : Tab w base p L) :
  Calls Tryz.prog 15 #[.pointer (some ⟨p, 0, none⟩), .string ⟨who.toArray⟩, .string ⟨mark.toArray⟩] w fun e w' => e = .returned (.bool (isIn L who mark)) ∧ Below w.heap.size w w' := by
 obtain ⟨b, sv, h1, h2, B, h4, h5, h6⟩ := hT
 have hlook : ∀ w', Below w.heap.size w w' → (Instr.lookup 104 (.map (some b)) (.agg #[.string ⟨who.toArray⟩, .string ⟨mark.toArray⟩, .bool false]) true).run Tryz.prog w' = .ok (.tuple #[.int .i64 ((idxOf (L.map keyOfS).reverse (who, mark) : Int)), .bool (isIn L who mark)]) w' := fun w' hb => Tab.look (base := base) (p := p) (ownsMap_keep h4 hb) h6 hw hm
 generalize isIn L who mark = q at *
 generalize (idxOf (L.map keyOfS).reverse (who, mark) : Int) = n at *
 go_enter Tryz.func15, Tryz.ntmps15
 go_wp2_with fail
 refine wpH_start (by kernel_rfl) (fun hS => ?_)
 (refine hP 0 ?_ ⟨some 10, .move (.tmp 0), 43, "", #[], none⟩ hS ?_ ?_; rotate_left; focus (intro w; go_simp; try with_reducible rfl))
 try simp only [pna, pnb, pnc, pnd, pne]
 (refine hP 1 ?_ ⟨some 11, .nilCheck (.tmp 10), 0, "", #[], none⟩ hS ?_ ?_; rotate_left; focus (intro w; go_simp; try with_reducible rfl))
 try simp only [pna, pnb, pnc, pnd, pne]
 (refine hP 2 ?_ ⟨some 12, .fieldAddr 107 (.tmp 11) 0, 0, "", #[], none⟩ hS ?_ ?_; rotate_left; focus (intro w; go_simp; try with_reducible rfl))
 try simp only [pna, pnb, pnc, pnd, pne]
 refine wpH_load 3 (.map (some b)) (oi := ⟨some 13,.load 104 (.tmp 12),104,"oracle.go:44",#[⟨2,.data⟩],none⟩) rfl (by kernel_rfl) (by kernel_rfl) (by kernel_rfl) (by rfl) hS (fun _ _ _ h => h) (fun w hb => (by have c := (B.keep hb).cell 0; go_simp; try rfl)) ?_
 try simp only [pna, pnb, pnc, pnd, pne]
 (refine hP 4 ?_ ⟨some 14, .move (.tmp 1), 9, "", #[], none⟩ hS ?_ ?_; rotate_left; focus (intro w; go_simp; try with_reducible rfl))
 try simp only [pna, pnb, pnc, pnd, pne]
 (refine hP 5 ?_ ⟨some 15, .move (.tmp 2), 9, "", #[], none⟩ hS ?_ ?_; rotate_left; focus (intro w; go_simp; try with_reducible rfl))
 try simp only [pna, pnb, pnc, pnd, pne]
 refine wpH_call 6 (oi := ⟨some 16,.call { callee := .value (.func 43), args := #[.tmp 14, .tmp 15], argTypes := #[9, 9] },109,"oracle.go:44",#[⟨4,.data⟩, ⟨5,.data⟩],none⟩) rfl (by kernel_rfl) (by rfl) (okey_any who mark _) ?_ ?_
 ·(go_simp; try rfl)
 rintro e w' ⟨rfl, hbx⟩
 refine ⟨_, rfl, hS.trans (hbx.mono hS.size), ?_⟩
 replace hS := hS.trans (hbx.mono hS.size)
 try simp only [pna, pnb, pnc, pnd, pne]
 refine wpH_load 7 (.tuple #[.int .i64 n, .bool q]) (oi := ⟨some 17,.lookup 104 (.tmp 13) (.tmp 16) true,103,"oracle.go:44",#[⟨3,.data⟩, ⟨6,.data⟩],none⟩) rfl (by kernel_rfl) (by kernel_rfl) (by kernel_rfl) (by rfl) hS (fun _ _ _ h => h) (fun w hb => (by have c := hlook w hb; go_simp; try exact c)) ?_
 try simp only [pna, pnb, pnc, pnd, pne]
 (refine hP 8 ?_ ⟨some 9, .move (.tmp 17), 103, "", #[], none⟩ hS ?_ ?_; rotate_left; focus (intro w; go_simp; try with_reducible rfl))
 try simp only [pna, pnb, pnc, pnd, pne]
 (refine hP 9 ?_ ⟨some 18, .extract (.tmp 9) 0, 3, "", #[], none⟩ hS ?_ ?_; rotate_left; focus (intro w; go_simp; try with_reducible rfl))
 try simp only [pna, pnb, pnc, pnd, pne]
 (refine hP 10 ?_ ⟨some 19, .extract (.tmp 9) 1, 4, "", #[], none⟩ hS ?_ ?_; rotate_left; focus (intro w; go_simp; try with_reducible rfl))
 try simp only [pna, pnb, pnc, pnd, pne]
 (refine hP 11 ?_ ⟨some 7, .assign (.tmp 18), 3, "", #[], none⟩ hS ?_ ?_; rotate_left; focus (intro w; go_simp; try with_reducible rfl))
 try simp only [pna, pnb, pnc, pnd, pne]
 (refine hP 12 ?_ ⟨some 8, .assign (.tmp 19), 4, "", #[], none⟩ hS ?_ ?_; rotate_left; focus (intro w; go_simp; try with_reducible rfl))
 try simp only [pna, pnb, pnc, pnd, pne]
 refine wpAnyH_done (by kernel_rfl) ?_ _
 go_wp2_with fail
 all_goals (go_ret; exact ⟨rfl, hS⟩)
theorem wp_mapUpd {P : Program} {o : Oper} {a : Act} {w : World} {K : Act → World → Prop} {Q : Exit → Act → World → Prop} (m x v : Operand) (t : TypeId) (hop : o.op = Op.mapUpdate t m x v)
  (k e : TypeId) (Kd : Keyed P k) (ht : P.underlying t = some (.map k e)) (R : Value → Option (DataW Unit × List MemPlace)) (b n : Nat) (D : DataW Unit)
  (hm : a.eval m = .map (some b)) (hown : w.ownsMap P k R b n D) (hn : n < maxLen) (key val : Value) (kl : Lit) (hx : a.eval x = key) (hv : a.eval v = val) (hkey : keyOf P k key = some kl)
  (d : DataW Unit) (ps : List MemPlace) (hval : R val = some (d, ps))
  (hK : ∀ w', w'.ownsMap P k R b (n + 1) (D.put kl d) → w.grownBy w' (some b) → K (a.put o.dst undef) w') : o.wp P a w K Q := by
 obtain ⟨w', hrun, r1, r2⟩ := hown.update Kd ht hn hkey hval
 unfold Oper.wp
 simp [execOp, hop, hm, hx, hv, hrun, Result.andThen]
 exact hK w' r1 r2
theorem ownsMap_mod {H : Type} {R : Value → Option (DataW H × List MemPlace)} {W w : World} {t : TypeId} {b n : Nat} {D : DataW H} {l : List Nat} (h : W.ownsMap Tryz.prog t R b n D) (hb : Mod l W w) (hn : b ∉ l) : w.ownsMap Tryz.prog t R b n D := by
 obtain ⟨es, clock, h1, h2⟩ := h
 refine ⟨es, clock, (hb.block b ?_ hn).trans h1, h2⟩
 rcases Nat.lt_or_ge b W.heap.size with hlt | hge
 ·exact hlt
 ·rw [Array.getElem?_eq_none hge] at h1; cases h1
theorem ownsMap_at {H : Type} {R : Value → Option (DataW H × List MemPlace)} {W w : World} {t : TypeId} {b n : Nat} {D : DataW H} (h : W.ownsMap Tryz.prog t R b n D) (hb : w.heap[b]? = W.heap[b]?) : w.ownsMap Tryz.prog t R b n D := by
 obtain ⟨es, clock, h1, h2⟩ := h
 exact ⟨es, clock, hb.trans h1, h2⟩
end Go.Proofs.YthkpmlfaddlieaaGreatDoor
