/- TSafeP, TOwnL, TImg, PairV, TSafeQ, TSafeR, RJour, JOpen. -/
import Derived.Test.YthgjdaomcpinaaaGreatDoorMp28
set_option linter.unnecessarySimpa false
set_option linter.unusedSimpArgs false
set_option linter.unusedVariables false
set_option maxRecDepth 100000
set_option maxHeartbeats 32000000
namespace Go.Proofs.YthgjdaomcpinaaaGreatDoor
open Go.RowKit Go.Maps Pl
inductive Chg : List (Int × Tr) → Bs → List (Int × Tr) → Prop
 | come (T : List (Int × Tr)) (t : Tr) (h : fineT t = true) (hh : 0 ≤ t.head.height ∧ t.head.height ≤ 9223372036854775807) : Chg T (1 :: writT t) (putK T t.head.height t)
 | goes (T : List (Int × Tr)) (k : Nat) (hk : k < 9223372036854775808) (h : (k : Int) ∈ hts T) : Chg T (2 :: num k) (delK T k)
inductive Chgs : List (Int × Tr) → List Bs → List (Int × Tr) → Prop
 | nil (T : List (Int × Tr)) : Chgs T [] T
 | cons {T T1 T2 : List (Int × Tr)} {s : Bs} {r : List Bs} (h : Chg T s T1) (h2 : Chgs T1 r T2) : Chgs T (s :: r) T2
theorem Chgs.app {T T1 : List (Int × Tr)} {a : List Bs} (h : Chgs T a T1) : ∀ {b : List Bs} {T2 : List (Int × Tr)}, Chgs T1 b T2 → Chgs T (a ++ b) T2 := by
 induction h with
 | nil T => intro b T2 h2; exact h2
 | cons h _ ih => intro b T2 h2; exact .cons h (ih h2)
theorem Chgs.head {T T2 : List (Int × Tr)} {s : Bs} {r : List Bs} (h : Chgs T (s :: r) T2) : ∃ T1, Chg T s T1 ∧ Chgs T1 r T2 := by
 cases h with
 | cons h h2 => exact ⟨_, h, h2⟩
theorem Chgs.none {T T2 : List (Int × Tr)} (h : Chgs T [] T2) : T2 = T := by
 cases h
 rfl
theorem Chg.len {T T1 : List (Int × Tr)} {s : Bs} (h : Chg T s T1) : T1.length ≤ T.length + 1 := by
 cases h with
 | come t hf hh => exact putK_len _ _ _
 | goes k hk h =>
  have : (delK T k).length ≤ T.length := List.length_filter_le _ _
  omega
theorem fineH_height {h : Hd} (hf : fineH h = true) : 0 ≤ h.height ∧ h.height ≤ 1048576 := by
 unfold fineH numsH inH at hf
 simp only [Bool.and_eq_true, decide_eq_true_eq] at hf
 exact hf.1.1.1.1.1
theorem chgs_adds : ∀ (l : List Tr) (T T' : List (Int × Tr)), l.all fineT = true → addsT l T = some T' → Chgs T (batchT l) T'
 | [], T, T', _, h => by
  injection h with h
  subst h
  exact .nil T
 | t :: r, T, T', hf, h => by
  simp only [List.all_cons, Bool.and_eq_true] at hf
  unfold addsT at h
  split at h
  ·cases h
  ·have := fineH_height (fineT_parts hf.1).1
   exact .cons (.come T t hf.1 (by omega)) (chgs_adds r _ T' hf.2 h)
theorem chgs_drops : ∀ (l : List Int) (T T' : List (Int × Tr)), (∀ k ∈ hts T, 0 ≤ k ∧ k ≤ 9223372036854775807) → dropsT l T = some T' → Chgs T (goesT l) T'
 | [], T, T', _, h => by
  injection h with h
  subst h
  exact .nil T
 | k :: r, T, T', hk, h => by
  unfold dropsT at h
  split at h
  ·rename_i hin
   have h0 := hk k hin
   obtain ⟨n, rfl⟩ : ∃ n : Nat, k = n := ⟨k.toNat, by omega⟩
   have := Chg.goes T n (by omega) hin
   exact .cons this (chgs_drops r _ T' (fun x hx => hk x (delK_keys.1 hx).1) h)
  ·cases h
def openD (d : Dk) (n : Nat) : Dk × Int := if n < d.s.length then (if (cutD d n).2 = 0 then syncD (cutD d n).1 else cutD d n) else syncD d
end Go.Proofs.YthgjdaomcpinaaaGreatDoor
namespace Go.Proofs.YthgjdaomcpinaaaGreatDoor
open Go.RowKit Go.WideMaps Go.Maps Go.Sort Go.Shelf Pl
theorem infoTr : (Tryz.prog.info? 27).map (fun i => (i.zero, i.size, i.bytes)) = some (some nilT, 13, 184) := by kernel_rfl
def tcsX (x : Tr × Value × Value) : List Value := tcs x.1 x.2.1 x.2.2
theorem tcsX_len (x : Tr × Value × Value) : (tcsX x).length = 13 := rfl
theorem tcsX_all : ∀ (cs : List (Tr × Value × Value)), (cs.flatMap tcsX).length = cs.length * 13
 | [] => rfl
 | y :: r => by rw [List.flatMap_cons, List.length_append, tcsX_len, tcsX_all r, List.length_cons]; omega
theorem tcsX_at : ∀ (cs : List (Tr × Value × Value)) (i j : Nat) (x : Tr × Value × Value), cs[i]? = some x → j < 13 → (cs.flatMap tcsX)[i * 13 + j]? = (tcsX x)[j]?
 | [], i, j, x, h, _ => by simp at h
 | y :: r, 0, j, x, h, hj => by
  simp only [List.getElem?_cons_zero, Option.some.injEq] at h
  subst h
  rw [List.flatMap_cons, Nat.zero_mul, Nat.zero_add, List.getElem?_append_left (by rw [tcsX_len]; exact hj)]
 | y :: r, i + 1, j, x, h, hj => by
  rw [List.getElem?_cons_succ] at h
  rw [List.flatMap_cons, List.getElem?_append_right (by rw [tcsX_len]; omega), tcsX_len, show (i + 1) * 13 + j - 13 = i * 13 + j from by omega]
  exact tcsX_at r i j x h hj
theorem tcs_one (t : Tr) {sk ms : Value} {ka ma : Option Addr} {kn kc mn mc : Nat} (h1 : sk = .slice ka kn kc) (h2 : ms = .slice ma mn mc) : ∀ u ∈ tcs t sk ms, u.oneCell' = true := by
 subst h1 h2
 intro u hu
 simp only [tcs, List.mem_cons, List.not_mem_nil, or_false] at hu
 rcases hu with rfl | rfl | rfl | rfl | rfl | rfl | rfl | rfl | rfl | rfl | rfl | rfl | rfl <;> rfl
end Go.Proofs.YthgjdaomcpinaaaGreatDoor
namespace Go.Proofs.YthgjdaomcpinaaaGreatDoor
open Go.RowKit Go.WideMaps Go.Maps Go.Sort Go.Shelf Pl
def imgL (T : List (Int × Tr)) (l : List Int) : List Tr := l.map (fun k => (lookK T k).getD trZ)
def imgT (T : List (Int × Tr)) : List Tr := imgL T (sortZ (hts T))
theorem imgL_len (T : List (Int × Tr)) (l : List Int) : (imgL T l).length = l.length := by unfold imgL; rw [List.length_map]
end Go.Proofs.YthgjdaomcpinaaaGreatDoor
namespace Go.Proofs.YthgjdaomcpinaaaGreatDoor
open Go.ChangeShapes Go.WideShapes Go.ChangeAt Go.RowKit Pl
theorem wf_i64 {k : Int} (h : (Lit.int .i64 k).wf = true) : -9223372036854775808 ≤ k ∧ k ≤ 9223372036854775807 := by
 have h1 : IntKind.i64.min = -9223372036854775808 := by decide
 have h2 : IntKind.i64.max = 9223372036854775807 := by decide
 simpa only [Lit.wf, Bool.and_eq_true, decide_eq_true_eq, h1, h2] using h
theorem int_valT {W : World} {v : Value} (h : Sh.Val W (.int .i64) v) : ∃ x : Int, v = .int .i64 x ∧ -9223372036854775808 ≤ x ∧ x ≤ 9223372036854775807 := by
 obtain ⟨k, hk, hw⟩ := h
 obtain rfl : v = .int .i64 k := by simpa using hk
 exact ⟨k, rfl, wf_i64 hw⟩
end Go.Proofs.YthgjdaomcpinaaaGreatDoor
namespace Go.Proofs.YthgjdaomcpinaaaGreatDoor
open Go.RowKit Go.Maps Pl
theorem look_cons (e : Int × Tr) (T : List (Int × Tr)) (k : Int) : lookK (e :: T) k = if e.1 = k then some e.2 else lookK T k := by
 unfold lookK
 rw [List.find?_cons]
 by_cases h : e.1 = k
 ·have h2 : (e.1 == k) = true := by simpa using h
  rw [if_pos h, h2]
  rfl
 ·have h2 : (e.1 == k) = false := by simpa using h
  rw [if_neg h, h2]
theorem hts_cons {e : Int × Tr} {T : List (Int × Tr)} {k : Int} : k ∈ hts (e :: T) ↔ k = e.1 ∨ k ∈ hts T := by
 unfold hts
 rw [List.map_cons, List.mem_cons]
theorem look_app : ∀ (T S : List (Int × Tr)) (k : Int), lookK (T ++ S) k = if k ∈ hts T then lookK T k else lookK S k
 | [], S, k => by simp [hts]
 | e :: T, S, k => by
  rw [List.cons_append, look_cons, look_cons, look_app T S k]
  by_cases h : e.1 = k
  ·rw [if_pos h, if_pos h, if_pos (hts_cons.2 (.inl h.symm))]
  ·by_cases h2 : k ∈ hts T
   ·rw [if_neg h, if_neg h, if_pos h2, if_pos (hts_cons.2 (.inr h2))]
   ·rw [if_neg h, if_neg h, if_neg h2, if_neg (fun hc => (hts_cons.1 hc).elim (fun e => h e.symm) h2)]
theorem look_none : ∀ {T : List (Int × Tr)} {k : Int}, lookK T k = none ↔ k ∉ hts T
 | [], k => by simp [lookK, hts]
 | e :: T, k => by
  rw [look_cons, hts_cons]
  by_cases h : e.1 = k
  ·rw [if_pos h]
   exact ⟨fun h2 => (by cases h2), fun h2 => absurd (Or.inl h.symm) h2⟩
  ·rw [if_neg h, look_none]
   exact ⟨fun h2 hc => hc.elim (fun e => h e.symm) h2, fun h2 hc => h2 (.inr hc)⟩
theorem look_mem {T : List (Int × Tr)} {k : Int} {t : Tr} (h : lookK T k = some t) : (k, t) ∈ T := by
 unfold lookK at h
 obtain ⟨e, he, rfl⟩ := Option.map_eq_some_iff.1 h
 have h1 := List.mem_of_find?_eq_some he
 have h2 := List.find?_some he
 have h3 : e.1 = k := by simpa using h2
 rw [← h3]
 exact h1
theorem look_map (T : List (Int × Tr)) (k : Int) (t : Tr) (k' : Int) : lookK (T.map (fun e => if e.1 = k then (k, t) else e)) k' = if k' = k then (if k ∈ hts T then some t else none) else lookK T k' := by
 induction T with
 | nil => simp [lookK, hts]
 | cons e T ih =>
  rw [List.map_cons, look_cons, ih, look_cons]
  by_cases h : e.1 = k
  ·rw [if_pos h]
   by_cases h2 : k' = k
   ·subst h2
    rw [if_pos rfl, if_pos rfl, if_pos (hts_cons.2 (.inl h.symm))]
   ·have h3 : ¬ k = k' := fun e => h2 e.symm
    rw [if_neg h3, if_neg h2, if_neg h2, if_neg (by rw [h]; exact h3)]
  ·rw [if_neg h]
   by_cases h2 : k' = k
   ·subst h2
    rw [if_neg h, if_pos rfl, if_pos rfl]
    by_cases h4 : k' ∈ hts T
    ·rw [if_pos h4, if_pos (hts_cons.2 (.inr h4))]
    ·rw [if_neg h4, if_neg (fun hc => (hts_cons.1 hc).elim (fun e => h e.symm) h4)]
   ·rw [if_neg h2, if_neg h2]
theorem look_put (T : List (Int × Tr)) (k : Int) (t : Tr) (k' : Int) : lookK (putK T k t) k' = if k' = k then some t else lookK T k' := by
 by_cases h : k ∈ hts T
 ·rw [putK_again h, look_map]
  simp [h]
 ·rw [putK_new h, look_app, look_cons]
  by_cases h2 : k' = k
  ·subst h2
   rw [if_neg h, if_pos rfl, if_pos rfl]
  ·have h3 : ¬ k = k' := fun e => h2 e.symm
   rw [if_neg h3, if_neg h2]
   split
   ·rfl
   ·rename_i h4
    rw [look_none.2 h4]
    rfl
theorem look_del (T : List (Int × Tr)) (k k' : Int) : lookK (delK T k) k' = if k' = k then none else lookK T k' := by
 induction T with
 | nil => simp [delK, lookK]
 | cons e T ih =>
  unfold delK at ih ⊢
  by_cases h : e.1 = k
  ·rw [List.filter_cons_of_neg (by simp [h]), ih, look_cons]
   by_cases h2 : k' = k
   ·rw [if_pos h2, if_pos h2]
   ·rw [if_neg h2, if_neg h2, if_neg (by rw [h]; exact fun e => h2 e.symm)]
  ·rw [List.filter_cons_of_pos (by simp [h]), look_cons, look_cons, ih]
   by_cases h2 : k' = k
   ·subst h2
    rw [if_neg h, if_pos rfl, if_pos rfl]
   ·rw [if_neg h2, if_neg h2]
theorem put_nodup {T : List (Int × Tr)} (h : (hts T).Nodup) (k : Int) (t : Tr) : (hts (putK T k t)).Nodup := by
 by_cases hk : k ∈ hts T
 ·rw [putK_again hk, hts_map]
  exact h
 ·rw [putK_new hk]
  unfold hts at *
  rw [List.map_append, List.nodup_append]
  refine ⟨h, by simp, ?_⟩
  intro a ha b hb e
  simp at hb
  subst hb e
  exact hk ha
theorem img_mem {T : List (Int × Tr)} (hn : (hts T).Nodup) {t : Tr} : t ∈ imgT T ↔ ∃ k, lookK T k = some t := by
 unfold imgT imgL
 rw [List.mem_map]
 constructor
 ·rintro ⟨k, hk, rfl⟩
  rw [sortZ_mem] at hk
  obtain ⟨t, ht⟩ := hts_mem hk
  exact ⟨k, by rw [lookK_in hn ht]; rfl⟩
 ·rintro ⟨k, hk⟩
  refine ⟨k, sortZ_mem.2 (List.mem_map.2 ⟨_, look_mem hk, rfl⟩), by rw [hk]; rfl⟩
theorem goes_may (l : List Int) (hl : l.length ≤ 1000) : mayR (goesT l) = true := by
 refine may_small _ 30 (fun x hx => ?_) (by rw [goes_len]; exact hl) (by omega)
 unfold goesT at hx
 obtain ⟨k, hk1, rfl⟩ := List.mem_map.1 hx
 have := num_len' k.toNat
 simp only [List.length_cons]
 omega
end Go.Proofs.YthgjdaomcpinaaaGreatDoor
namespace Go.Proofs.YthgjdaomcpinaaaGreatDoor
open Go.RowKit Go.Maps Pl
theorem mayR_nil : mayR [] = true := by decide
end Go.Proofs.YthgjdaomcpinaaaGreatDoor
namespace Go.Proofs.YthgjdaomcpinaaaGreatDoor
open Go.RowKit Pl
namespace Pl
def sumL (l : List Bs) : Nat := (l.map List.length).sum
theorem sumL_le : ∀ l : List Bs, sumL l ≤ (listB l).length
 | [] => by simp [sumL]
 | x :: r => by
  have h := sumL_le r
  unfold sumL at *
  rw [List.map_cons, List.sum_cons, listB, List.length_append]
  have : x.length ≤ (text x).length := by unfold text; rw [List.length_append]; omega
  omega
theorem sumL_take (l : List Bs) (i : Nat) (hi : i < l.length) : sumL (l.take (i + 1)) = sumL (l.take i) + (l.getD i []).length := by
 rw [takeS l i hi]
 unfold sumL
 rw [List.map_append, List.sum_append]
 simp
theorem sumL_part (l : List Bs) (i : Nat) : sumL (l.take i) ≤ sumL l := by
 have h : sumL l = sumL (l.take i) + sumL (l.drop i) := by
  unfold sumL
  rw [← List.sum_append, ← List.map_append, List.take_append_drop]
 omega
theorem sumL_enc (l : List Bs) : sumL l ≤ (encS l).length := by
 have := sumL_le l
 unfold encS
 rw [List.length_append]
 omega
def CutT (tail : Bs) : Prop := tail = [] ∨ ∃ b n, mayR b = true ∧ b.length ≤ 1000 ∧ n < (recP b).length ∧ tail = (recP b).take n
theorem CutT.none {tail : Bs} (h : CutT tail) : nextP tail = none := by
 rcases h with rfl | ⟨b, n, h1, _, h2, rfl⟩
 ·exact nextP_nil
 ·exact nextP_cut h1 n h2
end Pl
theorem rrecord_any (v : Value) (l : List Bs) (hn : l.length ≤ 1000) (hm : mayR l = true) (w : World) (hv : SS w v l) :
  Calls Tryz.prog 167 #[v] w fun e w' => e = .returned (.tuple #[.string ⟨List.toArray (recP l)⟩, .int .i64 0]) ∧ Below w.heap.size w w' := by
 obtain ⟨h1, h2, h3⟩ := may_parts hm
 have hl : ∀ i, i < l.length → (l.getD i []).length ≤ 65536 := fun i hi => h2 _ (by rw [List.getD_eq_getElem?_getD, List.getElem?_eq_getElem hi]; exact List.getElem_mem _)
 have HL := Lib.hid hl
 have HST := Lib.hid (sumL_take l)
 have HSP := Lib.hid (fun i => Nat.le_trans (sumL_part l i) (sumL_enc l))
 have q1 := fun W (hb : Below w.heap.size w W) => rflist_any v l W hn (fun i hi => by have := hl i hi; omega) (hv.keep hb)
 have q2 := fun W => rText_any (Pl.encS l) (by omega) W
 have ht := text_len (Pl.encS l)
 have q3 := fun W => rsum_any (text (Pl.encS l)) (by omega) W
 have hsl := sumP_len (text (Pl.encS l))
 have hr : recP l = text (Pl.encS l) ++ (sumP (text (Pl.encS l))).take 4 := rfl
 rw [hr]
 obtain ⟨va, vc, rfl⟩ := hv.form
 have HV := Lib.hid hv
 have d1 : decide (1024 < (l.length : Int)) = false := by rw [decide_eq_false_iff_not]; omega
 have d2 : decide (524288 < ((Pl.encS l).length : Int)) = false := by rw [decide_eq_false_iff_not]; omega
 have d3 : ¬ 524288 < ((Pl.encS l).length : Int) := by omega
 clear hl h2 hr hv
 generalize Pl.encS l = E at *
 generalize text E = T at *
 generalize sumP T = D at *
 have hcat : ¬ 9223372036854775807 < T.length + 4 := by omega
 have h4 : (D.take 4).length = 4 := by rw [List.length_take]; omega
 go_enter Tryz.func167, Tryz.ntmps167
 go_wp2_with fail
 go_loopw [4, 5] (fun s4 s5 wr => ∃ (i n : Nat), s5 = .int .i64 i ∧ s4 = .int .i64 n ∧ Hid (n = sumL (l.take i)) ∧ i ≤ l.length ∧ Below w.heap.size w wr) (fun _ s5 _ => l.length - (intOf s5).toNat)
 case atStart => exact ⟨0, 0, rfl, rfl, Lib.hid (by simp [sumL]), Nat.zero_le _, Below.refl _ _⟩
 case round =>
  obtain ⟨i, n, rfl, rfl, HN, hi, hb⟩ := hrel
  obtain ⟨wr, hnm⟩ := Below.name hb
  subst hnm
  by_cases hlt : i < l.length
  ·have HLT := Lib.hid hlt
   have i1 : decide ((i : Int) < (l.length : Int)) = true := by simp; omega
   have i0 : 0 ≤ (i : Int) ∧ (i : Int) < (l.length : Int) := by omega
   obtain ⟨g, off, e1, hg, c1⟩ := (HV.out.keep hb).at' i hlt
   subst e1
   have hx := HL.out i hlt
   have hst := HST.out i hlt
   have hsp := HSP.out (i + 1)
   rw [hst] at hsp
   have HST2 := Lib.hid hst
   generalize l.getD i [] = x at *
   have hnn : n + x.length ≤ 524288 := by have := HN.out; omega
   have d4 : decide (65536 < (x.length : Int)) = false := by rw [decide_eq_false_iff_not]; omega
   have d5 : ¬ 65536 < (x.length : Int) := by omega
   have w1 : IntKind.i64.wrap ((n : Int) + (x.length : Int)) = (n : Int) + (x.length : Int) := by rw [IntKind.wrap_i64]; omega
   have d6 : decide (524288 < (n : Int) + (x.length : Int)) = false := by rw [decide_eq_false_iff_not]; omega
   clear hlt hst hsp
   go_wp2_with fail
   exact ⟨⟨i + 1, n + x.length, by go_num, by go_num, Lib.hid (by rw [HST2.out, HN.out]), by have := HLT.out; omega, hb⟩, by have := HLT.out; simp [intOf]; omega⟩
  ·have e : i = l.length := by omega
   subst e
   clear hlt
   go_wp2_with fail
   refine (q1 _ hb).mono ?_
   rintro e w2 ⟨rfl, hb2⟩
   have hb2 := hb.trans (hb2.mono hb.size)
   go_wp2_with fail
   refine (q2 _).mono ?_
   rintro e w3 ⟨rfl, hb3⟩
   have hb3 := hb2.trans (hb3.mono hb2.size)
   go_wp2_with fail
   refine (q3 _).mono ?_
   rintro e w4 ⟨rfl, hb4⟩
   have hb4 := hb3.trans (hb4.mono hb3.size)
   go_wp2_with fail
   go_ret2
   exact ⟨by simp, hb4⟩
end Go.Proofs.YthgjdaomcpinaaaGreatDoor
namespace Go.Proofs.YthgjdaomcpinaaaGreatDoor
open Go.RowKit Pl
def jopened (w w' : World) (av : List Nat) (p : Nat) (B : List (List Bs)) (r : Dk × Int) (e : Ending) : Prop :=
 Mod [p] w w' ∧ (r.2 = 0 → ∃ j v, e = .returned (.tuple #[.pointer (some ⟨j, 0, none⟩), v, .int .i64 0]) ∧ w.heap.size ≤ j ∧ Blk w' j #[.pointer (some ⟨p, 0, none⟩), .bool false] ∧ DkV w' (j :: av) p r.1 ∧ LS w' w.heap.size v B) ∧
  (r.2 ≠ 0 → e = .returned (.tuple #[.pointer none, .slice none 0 0, .int .i64 r.2]) ∧ DkV w' av p r.1)
theorem jopened.no {w w' : World} {av : List Nat} {p : Nat} {B : List (List Bs)} {r : Dk × Int} (hm : Mod [p] w w') (h : r.2 ≠ 0) (hD : DkV w' av p r.1) : jopened w w' av p B r (.returned (.tuple #[.pointer none, .slice none 0 0, .int .i64 r.2])) :=
 ⟨hm, fun h0 => absurd h0 h, fun _ => ⟨rfl, hD⟩⟩
theorem jopened.yes {w w1 : World} {av : List Nat} {p : Nat} {B : List (List Bs)} {r : Dk × Int} {v : Value} (hm : Mod [p] w w1) (h : r.2 = 0) (hD : DkV w1 av p r.1) (hS : LS w1 w.heap.size v B) :
  jopened w (w1.alloc (.cells #[.pointer (some ⟨p, 0, none⟩), .bool false] 166)) av p B r (.returned (.tuple #[.pointer (some ⟨w1.heap.size, 0, none⟩), v, .int .i64 0])) :=
 ⟨hm.trans (Mod.of_below (Below.allocS (Below.refl _ _) _)), fun _ => ⟨w1.heap.size, v, rfl, hm.size, Blk.new _ _ _, (hD.more (Nat.le_refl _)).keep (Below.allocS (Below.refl _ _) _), hS.keep (Below.allocS (Below.refl _ _) _)⟩, fun h0 => absurd h h0⟩
theorem jopen_any (av : List Nat) (p : Nat) (d : Dk) (B : List (List Bs)) (tail : Bs) (hs : d.s = recsP B ++ tail) (hB : ∀ b ∈ B, mayR b = true) (ht : nextP tail = none) (hl : d.s.length ≤ 1048576) (hf : -9223372036854775807 ≤ d.fuse ∧ d.fuse ≤ 9223372036854775807) (w : World) (hk : KT w) (h : DkV w av p d) :
  Calls Tryz.prog 68 #[.pointer (some ⟨p, 0, none⟩)] w fun e w' => jopened w w' av p B (openD d (recsP B).length) e := by
 have q1 := dread_any av p d w h
 have q2 := jscan_any B tail hB ht (by rw [← hs]; exact hl) w hk
 rw [← hs] at q2
 have hnl : (recsP B).length ≤ d.s.length := by rw [hs, List.length_append]; omega
 have hbf := burnt_fuse d
 obtain ⟨_, _, hx2⟩ := h.row
 have hpl := hx2.lt
 clear hx2
 have H := Lib.hid h
 by_cases hc : (recsP B).length < d.s.length
 ·have HO : Hid (openD d (recsP B).length = if (cutD d (recsP B).length).2 = 0 then syncD (cutD d (recsP B).length).1 else cutD d (recsP B).length) := Lib.hid (if_pos hc)
  have q3 := fun W (h : DkV W av p d) => dcut_any av p d (recsP B).length hnl (by omega) hl W h
  have hcf : -9223372036854775808 ≤ (cutD d (recsP B).length).1.fuse ∧ (cutD d (recsP B).length).1.fuse ≤ 9223372036854775807 := by
   unfold cutD
   split
   ·simp only; omega
   ·split
    ·simp only; rcases hbf with e | ⟨e, _⟩ <;> omega
    ·rcases hbf with e | ⟨e, _⟩ <;> omega
  have q4 := fun W (h : DkV W av p (cutD d (recsP B).length).1) => dsync_any av p (cutD d (recsP B).length).1 hcf W h
  generalize openD d (recsP B).length = R at *
  generalize (recsP B).length = n at *
  generalize cutD d n = x at *
  obtain ⟨d1, c1⟩ := x
  simp only at q3 q4 HO
  generalize syncD d1 = y at *
  obtain ⟨d2, c2⟩ := y
  simp only at q4 HO
  have i1 : decide ((n : Int) < (d.s.length : Int)) = true := by simp; omega
  have i2 : decide (n < d.s.length) = true := by simpa using hc
  clear h hs hB ht hbf hcf hc hnl
  go_enter Tryz.func68, Tryz.ntmps68
  go_wp2_with fail
  refine q1.mono ?_
  rintro e w1 ⟨rfl, rfl⟩
  clear q1
  go_wp2_with fail
  refine q2.mono ?_
  rintro e w2 ⟨v, rfl, hS, hb⟩
  obtain ⟨sa, sc, rfl⟩ := hS.form
  have H2 := H.out.keep hb
  have m2 := Mod.of_below (l := [p]) hb
  clear q2
  go_wp2_with fail
  refine (q3 _ H2).mono ?_
  rintro e w3 ⟨rfl, H3, m3⟩
  have hS3 := hS.modl m3 (by simp; omega)
  have mm3 := m2.trans m3
  clear q3 H2 hS
  by_cases h1 : c1 = 0
  ·subst h1
   go_wp2_with fail
   refine (q4 _ H3).mono ?_
   rintro e w4 ⟨rfl, H4, m4⟩
   have hS4 := hS3.modl m4 (by simp; omega)
   have mm4 := mm3.trans m4
   clear q4 H3 hS3
   by_cases h2 : c2 = 0
   ·subst h2
    go_wp2_with fail
    go_ret3
    rw [HO.out, if_pos (by trivial)]
    exact jopened.yes mm4 rfl H4 hS4
   ·have g1 : (c2 != 0) = true := by simpa using h2
    go_wp2_with fail
    go_ret3
    rw [HO.out, if_pos (by trivial)]
    exact jopened.no (r := (d2, c2)) mm4 h2 H4
  ·have g1 : (c1 != 0) = true := by simpa using h1
   go_wp2_with fail
   go_ret3
   rw [HO.out, if_neg h1]
   exact jopened.no (r := (d1, c1)) mm3 h1 H3
 ·have HO : Hid (openD d (recsP B).length = syncD d) := Lib.hid (if_neg hc)
  have q4 := fun W (h : DkV W av p d) => dsync_any av p d (by omega) W h
  generalize openD d (recsP B).length = R at *
  generalize syncD d = y at *
  obtain ⟨d2, c2⟩ := y
  simp only at q4 HO
  generalize (recsP B).length = n at *
  have i1 : decide ((n : Int) < (d.s.length : Int)) = false := by simp; omega
  have i2 : decide (n < d.s.length) = false := by simpa using hc
  clear h hs hB ht hbf hnl
  go_enter Tryz.func68, Tryz.ntmps68
  go_wp2_with fail
  refine q1.mono ?_
  rintro e w1 ⟨rfl, rfl⟩
  clear q1
  go_wp2_with fail
  refine q2.mono ?_
  rintro e w2 ⟨v, rfl, hS, hb⟩
  obtain ⟨sa, sc, rfl⟩ := hS.form
  have H2 := H.out.keep hb
  have m2 := Mod.of_below (l := [p]) hb
  clear q2
  go_wp2_with fail
  refine (q4 _ H2).mono ?_
  rintro e w4 ⟨rfl, H4, m4⟩
  have hS4 := hS.modl m4 (by simp; omega)
  have mm4 := m2.trans m4
  clear q4 H2 hS
  by_cases h2 : c2 = 0
  ·subst h2
   go_wp2_with fail
   go_ret3
   rw [HO.out]
   exact jopened.yes mm4 rfl H4 hS4
  ·have g1 : (c2 != 0) = true := by simpa using h2
   go_wp2_with fail
   go_ret3
   rw [HO.out]
   exact jopened.no (r := (d2, c2)) mm4 h2 H4
end Go.Proofs.YthgjdaomcpinaaaGreatDoor
