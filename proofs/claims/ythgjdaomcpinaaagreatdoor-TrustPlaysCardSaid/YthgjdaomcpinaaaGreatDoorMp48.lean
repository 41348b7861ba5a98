/- TWorksS, TPq. -/
import Derived.Deep.CutBlock
import Derived.Test.YthgjdaomcpinaaaGreatDoorMp46
import Derived.Test.YthgjdaomcpinaaaGreatDoorMp47
set_option linter.unnecessarySimpa false
set_option linter.unusedSimpArgs false
set_option linter.unusedVariables false
set_option maxRecDepth 100000
set_option maxHeartbeats 32000000
namespace Go.Proofs.YthgjdaomcpinaaaGreatDoor
open Go.RowKit Go.WideMaps Go.Maps Go.Sort Go.Shelf Pl
theorem TL.one {w : World} {base : Nat} {t : Tr} {ka ma : Option Addr} {kc mc : Nat} (r1 : SRow w base (.slice ka t.head.skips.length kc) t.head.skips) (r2 : MRow w base (.slice ma t.set.length mc) t.set) :
  TL (w.alloc (.cells #[.int .i64 t.head.height, .int .i64 t.head.epoch, .int .i64 t.head.view, .bool t.head.last, .string ⟨List.toArray t.head.parent⟩, .string ⟨List.toArray t.head.state⟩, .string ⟨List.toArray t.head.receipts⟩, .string ⟨List.toArray t.head.txs⟩, .string ⟨List.toArray t.head.members⟩, .string ⟨List.toArray t.head.next⟩, .slice ka t.head.skips.length kc, .slice ma t.set.length mc, .int .i64 t.at_] 27)) (.slice (some ⟨w.heap.size, 0, none⟩) 1 1) [t] := by
 have hb := Below.allocS (Below.refl w.heap.size w) (.cells #[.int .i64 t.head.height, .int .i64 t.head.epoch, .int .i64 t.head.view, .bool t.head.last, .string ⟨List.toArray t.head.parent⟩, .string ⟨List.toArray t.head.state⟩, .string ⟨List.toArray t.head.receipts⟩, .string ⟨List.toArray t.head.txs⟩, .string ⟨List.toArray t.head.members⟩, .string ⟨List.toArray t.head.next⟩, .slice ka t.head.skips.length kc, .slice ma t.set.length mc, .int .i64 t.at_] 27)
 refine ⟨_, _, rfl, Nat.le_refl _, by unfold maxLen; omega, fun _ => ⟨_, 0, rfl, by simp, fun i t' hi => ?_⟩⟩
 have h0 : i = 0 := by
  have := (List.getElem?_eq_some_iff.1 hi).1
  simp at this
  exact this
 subst h0
 simp only [List.getElem?_cons_zero, Option.some.injEq] at hi
 subst hi
 refine ⟨_, _, ?_, (r1.keep hb).ss, (r2.keep hb).ms, (r1.keep hb).plain, (r2.keep hb).plain⟩
 intro j u hj
 have h1 := (Blk.new w #[.int .i64 t.head.height, .int .i64 t.head.epoch, .int .i64 t.head.view, .bool t.head.last, .string ⟨List.toArray t.head.parent⟩, .string ⟨List.toArray t.head.state⟩, .string ⟨List.toArray t.head.receipts⟩, .string ⟨List.toArray t.head.txs⟩, .string ⟨List.toArray t.head.members⟩, .string ⟨List.toArray t.head.next⟩, .slice ka t.head.skips.length kc, .slice ma t.set.length mc, .int .i64 t.at_] 27).cell j
 rw [Nat.zero_mul, Nat.zero_add, h1, ← hj]
 simp [tcs]
theorem tworks_any (w : World) (hk : KT w) :
  Calls Tryz.prog 9 #[] w fun e w' => e = .returned (.bool true) ∧ Below w.heap.size w w' := by
 have q1 := dnew_any 1000 (by omega) (by omega) w
 go_enter Tryz.func9, Tryz.ntmps9
 go_wp2_with fail
 refine q1.mono ?_
 rintro e w1 ⟨rfl, hD, hb1⟩
 have q2 := topen_empty [w.heap.size] w.heap.size ⟨[], 0, 1000, -1, false⟩ 10 (by omega) (by omega) rfl (by simp) (by rfl) w1 hD
 rw [show (syncD ⟨[], 0, 1000, -1, false⟩).1 = ⟨[], 0, 1000, -1, false⟩ from by rfl] at q2
 have hpl : w.heap.size < w1.heap.size := by
  obtain ⟨_, _, h⟩ := hD.row
  exact h.lt
 clear q1 hD
 go_wp2_with fail
 refine q2.mono ?_
 rintro e w2 ⟨j, m, q, rfl, hj, hjm, hmq, hJ, hD, ho, hQ, m2⟩
 have hb2 := Below.mod hb1 m2 hb1.size (by simp)
 have hs1 := hb1.size
 have hql := hQ.lt
 have hM : TrM w2 w2.heap.size m [] := TrM.nil ho
 have q3 := some_any 1 5 w2 (by omega) (by omega) (hk.keep hb2)
 obtain ⟨t, ht⟩ : ∃ t, t = someT 1 5 := ⟨_, rfl⟩
 have t1 : t.head.height = 3 := by rw [ht]; rfl
 have t2 : t.at_ = 5 := by rw [ht]; rfl
 have t3 : t.head.skips = [] := by rw [ht]; rfl
 have t4 : t.set.length = 1 := by rw [ht]; rfl
 have t5 : fineT t = true := by rw [ht]; exact some_fine 1 5 (by omega) (by omega) (by omega) (by omega)
 have t6 : (writT t).length ≤ 430 := by rw [ht]; exact some_len 1 5
 rw [← ht] at q3
 clear ht q2 ho hb1
 have hmay : mayR (batchT [t]) = true := may_small _ 431 (by intro x hx; simp [batchT] at hx; subst hx; simp; omega) (by simp [batchT]) (by omega)
 have hrl := rec_len (batchT [t]) 431 (by intro x hx; simp [batchT] at hx; subst hx; simp; omega)
 have hwr := writeD_ok ⟨[], 0, 1000, -1, false⟩ (batchT [t]) rfl (by simp) (by simp [batchT] at hrl ⊢; omega)
 have hadd : addD ⟨[], 0, 1000, -1, false⟩ [] [t] = ((writeD ⟨[], 0, 1000, -1, false⟩ (batchT [t])).1, [(3, t)], 0, tornD (writeD ⟨[], 0, 1000, -1, false⟩ (batchT [t])).2) := addD_yes (by simp [t5]) (by rw [addsT_step (clashT_new (by simp [hts])), putK_new (by simp [hts]), t1]; rfl) (by simp) (by rw [hwr])
 have HT1 := Lib.hid t1
 have HT2 := Lib.hid t2
 have HT3 := Lib.hid t3
 have HT4 := Lib.hid t4
 have HADD := Lib.hid hadd
 have HMAY := Lib.hid hmay
 have HMM := Lib.hid hM
 have HQQ := Lib.hid hQ
 have HDD := Lib.hid hD
 have HJJ := Lib.hid hJ
 have HKT := Lib.hid hk
 clear hwr hrl t5 t6 t1 t2 t3 t4 hadd hmay hM hQ hD hJ hk m2
 go_wp2_with fail
 refine q3.mono ?_
 rintro e w3 ⟨v, rfl, ⟨sk, ms, rfl, r1, r2⟩, hb⟩
 obtain ⟨ka, kc, rfl⟩ := r1.form
 obtain ⟨ma, mc, rfl⟩ := r2.form
 have hb3 := hb2.trans (hb.mono hb2.size)
 have hs2 := hb.size
 have hbt := Below.allocS hb (.cells #[.int .i64 t.head.height, .int .i64 t.head.epoch, .int .i64 t.head.view, .bool t.head.last, .string ⟨List.toArray t.head.parent⟩, .string ⟨List.toArray t.head.state⟩, .string ⟨List.toArray t.head.receipts⟩, .string ⟨List.toArray t.head.txs⟩, .string ⟨List.toArray t.head.members⟩, .string ⟨List.toArray t.head.next⟩, .slice ka t.head.skips.length kc, .slice ma t.set.length mc, .int .i64 t.at_] 27)
 have hb4 := hb2.trans (hbt.mono hb2.size)
 have hTL := TL.one r1 r2
 have q4 := tadd_anyS [q, m, j, w.heap.size] w2.heap.size w.heap.size j q m 10 ⟨[], 0, 1000, -1, false⟩ [] _ [t] (by simp) (by simp) HMAY.out (by simp) (by simp) (by simp) (by intro x hx; rw [List.mem_singleton] at hx; subst hx; rw [HT3.out, HT4.out, HT1.out]; simp) _ (HKT.out.keep hb4) (HDD.out.keep hbt) (HJJ.out.keep hbt) (by omega) (by simp) (by simp) (by intro x hx; simp at hx; simp; omega) (by omega) (by omega) hql (by omega) (by omega) (by simp; omega) (HQQ.out.keep hbt) (HMM.out.keep hbt) hTL
 rw [HADD.out] at q4
 clear q3 r1 r2 hTL hb hb3
 go_wp2_with fail
 refine q4.mono ?_
 rintro e w5 ⟨m', rfl, hQ5, hM5, _, _, m5⟩
 have hb5 := Below.mod hb4 m5 hb4.size (by simp; omega)
 have hs5 := hb5.size
 have q5 := tat_any w2.heap.size q m' 10 (.pointer (some ⟨j, 0, none⟩)) [(3, t)] 3 14 t (by omega) (by omega) (by omega) (by simp) (by rw [HT3.out]; simp) (by rw [HT4.out]; omega) w5 hM5 hQ5
 rw [show staleT 10 14 t = false from by unfold staleT; rw [HT2.out]; rfl] at q5
 simp only [Bool.false_eq_true, ↓reduceIte] at q5
 clear q4 m5 hb4 hbt hb2
 go_wp2_with fail
 refine q5.mono ?_
 rintro e w6 ⟨v6, rfl, ⟨sk, ms, rfl, r1, r2⟩, hb⟩
 obtain ⟨xa, xc, rfl⟩ := r1.form
 obtain ⟨ya, yc, rfl⟩ := r2.form
 have hM6 := hM5.keep hb
 have hQ6 := hQ5.keep hb
 have hb6 := hb5.trans (hb.mono hb5.size)
 have hs6 := hb6.size
 clear q5 hM5 hQ5 hb hb5
 go_wp2_with (first | (refine wpList_rowStore row_trust rfl rfl (.tmp 5) (.tmp 40) rfl rfl rfl (vs := [.int .i64 t.head.height, .int .i64 t.head.epoch, .int .i64 t.head.view, .bool t.head.last, .string ⟨List.toArray t.head.parent⟩, .string ⟨List.toArray t.head.state⟩, .string ⟨List.toArray t.head.receipts⟩, .string ⟨List.toArray t.head.txs⟩, .string ⟨List.toArray t.head.members⟩, .string ⟨List.toArray t.head.next⟩, .slice xa t.head.skips.length xc, .slice ya t.set.length yc, .int .i64 t.at_]) rfl (by simp [Value.oneCell']) (us := ztL) rfl (Blk.new' (by simp)) ?_; intro w7 N7 m7; have hbn := Below.mod (Below.allocS (Below.refl w6.heap.size w6) (.cells ztA 27)) m7 (by simp) (by simp); have q6 := tat_any w2.heap.size q m' 10 (.pointer (some ⟨j, 0, none⟩)) [(3, t)] 3 15 t (by omega) (by omega) (by omega) (by simp) (by rw [HT3.out]; simp) (by rw [HT4.out]; omega) w7 (hM6.keep hbn) (hQ6.keep hbn); rw [show staleT 10 15 t = true from by unfold staleT; rw [HT2.out]; rfl] at q6; simp only [↓reduceIte] at q6))
 refine q6.mono ?_
 rintro e w8 ⟨v8, rfl, rfl, hb⟩
 have hb7 := hb6.trans (hbn.mono hb6.size)
 have hb8 := hb7.trans (hb.mono hb7.size)
 clear q6 hM6 hQ6 hb hb6 hb7 hbn r1 r2 N7 m7
 obtain ⟨u, hu⟩ : ∃ u, u = someT 2 0 := ⟨_, rfl⟩
 have HU : Hid (codeT (fineT u) = 0) := Lib.hid (by rw [hu, some_fine 2 0 (by omega) (by omega) (by omega) (by omega)]; rfl)
 have HZ : Hid (codeT (fineT ⟨⟨0, 0, 0, false, [], [], [], [], [], [], []⟩, [], 0⟩) = 3) := Lib.hid rfl
 go_wp2_with (first | (refine wpList_rowStore row_trust rfl rfl (.tmp 7) (.tmp 45) rfl rfl rfl (vs := [.int .i64 0, .int .i64 0, .int .i64 0, .bool false, .string ⟨List.toArray []⟩, .string ⟨List.toArray []⟩, .string ⟨List.toArray []⟩, .string ⟨List.toArray []⟩, .string ⟨List.toArray []⟩, .string ⟨List.toArray []⟩, .slice none 0 0, .slice none 0 0, .int .i64 0]) rfl (by simp [Value.oneCell']) (us := ztL) rfl (Blk.new' (by simp)) ?_; intro w9 N9 m9; have hbn := Below.mod (Below.allocS (Below.refl w8.heap.size w8) (.cells ztA 27)) m9 (by simp) (by simp); have hb9 := hb8.trans (hbn.mono hb8.size); have q7 := some_any 2 0 w9 (by omega) (by omega) (HKT.out.keep hb9); rw [← hu] at q7))
 refine q7.mono ?_
 rintro e w10 ⟨v, rfl, ⟨sk, ms, rfl, r1, r2⟩, hb⟩
 have hb10 := hb9.trans (hb.mono hb9.size)
 have q8 := tr_check u.head.height u.head.epoch u.head.view u.head.last u.head.parent u.head.state u.head.receipts u.head.txs u.head.members u.head.next u.head.skips _ u.set _ u.at_ w10 r1.ss r2.ms (HKT.out.keep hb10)
 rw [show codeT (fineT ⟨⟨u.head.height, u.head.epoch, u.head.view, u.head.last, u.head.parent, u.head.state, u.head.receipts, u.head.txs, u.head.members, u.head.next, u.head.skips⟩, u.set, u.at_⟩) = 0 from HU.out] at q8
 clear q7 hu r1 r2 hb hb9 hbn N9 m9 hb8
 go_wp2_with fail
 refine q8.mono ?_
 rintro e w11 ⟨rfl, hb⟩
 have hb11 := hb10.trans (hb.mono hb10.size)
 have q9 := tr_check 0 0 0 false [] [] [] [] [] [] [] _ [] _ 0 w11 (SS.nil w11) (MRow.nil w11 0).ms (HKT.out.keep hb11)
 rw [HZ.out] at q9
 clear q8 hb10 hb
 go_wp2_with fail
 refine q9.mono ?_
 rintro e w12 ⟨rfl, hb⟩
 go_wp2_with fail
 go_ret
 exact ⟨rfl, hb11.trans (hb.mono hb11.size)⟩
end Go.Proofs.YthgjdaomcpinaaaGreatDoor
namespace Go.Proofs.YthgjdaomcpinaaaGreatDoor
open Go.RowKit Go.WideMaps Go.Maps Go.Sort Go.Shelf Pl
structure PQ (w : World) (n0 p X q j m base : Nat) (av : List Nat) (lv : Value) (d : Dk) (br : Bool) (T : List (Int × Tr)) (l : List Tr) : Prop where
 pp : PP w n0 p X q j m base av d br T
 rp : RP w X q j p lv d br l
 im : Im l T
theorem PP.four {w : World} {n0 p X q j m base : Nat} {av : List Nat} {d : Dk} {br : Bool} {T : List (Int × Tr)} (h : PP w n0 p X q j m base av d br T) : ∀ x ∈ [X, q, j, p], x < w.heap.size := by
 intro x hx
 have := h.bs
 simp at hx
 omega
theorem CsAt.keep {w w' : World} {g off : Nat} {cs : List (Tr × Value × Value)} (h : CsAt w g off cs) (hg : g < w.heap.size) (hb : Below w.heap.size w w') : CsAt w' g off cs := fun i x hx j u hj => (hb.cell (p := ⟨g, _, none⟩) hg).trans (h i x hx j u hj)
theorem TR0 (w : World) : (w.alloc (.cells #[] 27)).ownsRow w.heap.size 27 13 (.slice (some ⟨w.heap.size, 0, none⟩) 0 0) 0 (([] : List (Tr × Value × Value)).flatMap tcsX) :=
 ⟨rfl, .inr ⟨w.heap.size, 0, #[], rfl, Nat.le_refl _, by simp [World.alloc, -World.alloc_eq], Nat.le_refl _, by unfold maxLen; omega, rfl, rfl⟩⟩
theorem trim_r {l : List Tr} {T : List (Int × Tr)} (h : Im l T) (g : GoodT T) (now most : Int) : rtrimG l 10 now most l.length 0 [] = goneG T 10 now most := by
 have e := trim_same (sp := 10) (now := now) (most := most) g.nd g.key (by omega) g.at0
 rw [← h.img g.nd] at e
 exact e
theorem PP.trimU {w : World} {n0 p X q j m base : Nat} {av : List Nat} {d : Dk} {br : Bool} {T : List (Int × Tr)} {l : List Tr} {n : Nat} (h : PP w n0 p X q j m base av d br T) (ho : Hold d br T n) (hi : Im l T) (hn : n ≤ 20) (hl : l.length ≤ 800) (hk : KT w) (most now : Int) (hmo : I64 most) (hnow : I64 now) :
  ∃ (d2 : Dk) (T2 : List (Int × Tr)) (c N : Int) (b2 : Bool) (l2 : List Tr), Im l2 T2 ∧ Hold d2 b2 T2 (n + 1) ∧
   (Calls Tryz.prog 30 #[.pointer (some ⟨q, 0, none⟩), .int .i64 most, .int .i64 now] w fun e w' => ∃ m', e = .returned (.tuple #[.int .i64 N, .int .i64 c]) ∧ PP w' n0 p X q j m' base av d2 b2 T2 ∧ Mod [p, j, q] w w') ∧
   (∀ (bv : List Nat) (lv : Value) (W : World), TLA W bv lv l → (∀ x ∈ bv, x < W.heap.size) → Calls Tryz.prog 40 #[stv lv 10 d br, .int .i64 most, .int .i64 now] W fun e w' => ∃ v', e = .returned (.tuple #[stv v' 10 d2 b2, .int .i64 N, .int .i64 c]) ∧ TLA w' bv v' l2 ∧ Below W.heap.size W w') := by
 by_cases hm : most < 1
 ·refine ⟨d, T, 1, 0, br, l, hi, ho.more, ?_, ?_⟩
  ·refine (ttrim_range q most now hm w).mono ?_
   rintro e w' ⟨rfl, rfl⟩
   exact ⟨m, rfl, h, Mod.refl _ _⟩
  ·intro bv lv W hT hx
   obtain ⟨a, c, rfl⟩ := hT.form
   refine (rtrim_range a l.length c 10 most now d br hm W).mono ?_
   rintro e w' ⟨rfl, hb⟩
   exact ⟨_, rfl, hT.keep hb, hb⟩
 ·have hmo2 : 1 ≤ most ∧ most ≤ 9223372036854775807 := ⟨by omega, hmo.2⟩
  have hf := ho.fuse
  have hr := ho.room
  have hlen := ho.len
  have hT := ho.tlen
  have hgl := gone_len T 10 now most
  obtain ⟨l2, e2, hI2⟩ := hi.dropS d br (goneG T 10 now most)
  have hH2 : Hold (dropS d br T (goneG T 10 now most)).1 (dropS d br T (goneG T 10 now most)).2.2.2 (dropS d br T (goneG T 10 now most)).2.1 (n + 1) := ho.drops _ (by omega)
  refine ⟨_, _, _, _, _, l2, hI2, hH2, h.trim ho (by omega) hk most now hmo2 hnow, ?_⟩
  intro bv lv W hTL hx
  have q := rtrim_any bv lv l 10 most now d br (by omega) (by omega) hnow hmo2 (fun t ht => by have h := fineT_small (hi.fine ho.good t ht); omega) (fun _ => by rw [trim_r hi ho.good]; exact goes_may _ (by omega)) (by omega) (by omega) (by omega) W hTL hx
  rw [trim_r hi ho.good, e2] at q
  exact q
end Go.Proofs.YthgjdaomcpinaaaGreatDoor
