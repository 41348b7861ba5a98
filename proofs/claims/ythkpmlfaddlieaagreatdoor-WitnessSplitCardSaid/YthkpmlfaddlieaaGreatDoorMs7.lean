/- Ints, Links, Shelf6, Flag, HeadC, HeadS. -/
import Derived.WalkMore
import Derived.ScopeJumps
import Derived.Test.YthkpmlfaddlieaaGreatDoorProg
import Derived.Shelf.SlicesE.IndexFunc
import Derived.Test.YthkpmlfaddlieaaGreatDoorMs6
set_option linter.unnecessarySimpa false
set_option linter.unusedSimpArgs false
set_option linter.unusedVariables false
set_option maxRecDepth 100000
set_option maxHeartbeats 32000000
namespace Go.Proofs.YthkpmlfaddlieaaGreatDoor
open Go.RowKit
theorem infoZ : (Tryz.prog.info? 3).map (fun i => (i.zero, i.size, i.bytes)) = some (some (.int .i64 0), 1, 8) := by kernel_rfl
def zv (l : List Int) : List Value := l.map fun c => Value.int .i64 c
def ZRow (w : World) (base : Nat) (v : Value) (l : List Int) : Prop := w.ownsRow base 3 1 v l.length (zv l)
theorem zv_len (l : List Int) : (zv l).length = l.length := by simp [zv]
theorem ZRow.nil (w : World) (base : Nat) : ZRow w base (.slice none 0 0) [] := ⟨rfl, .inl ⟨rfl, rfl⟩⟩
theorem ZRow.cells {w : World} {base : Nat} {v : Value} {l : List Int} (h : ZRow w base v l) :
  (v = .slice none 0 0 ∧ l = []) ∨ ∃ g cap, v = .slice (some ⟨g, 0, none⟩) l.length cap ∧ base ≤ g ∧ g < w.heap.size ∧ l.length ≤ cap ∧ cap ≤ maxLen ∧ (∀ i, i < l.length → w.cell? ⟨g, i, none⟩ = some (.int .i64 (l.getD i 0))) ∧ ∀ o, w.frozen? ⟨g, o, none⟩ = false := by
 rcases h.2 with ⟨h1, h2⟩ | ⟨g, cap, cur, hv, hb, hg, hn, hm, hc, ht⟩
 ·exact .inl ⟨h1, List.length_eq_zero_iff.1 h2⟩
 ·refine .inr ⟨g, cap, hv, hb, ?_, hn, hm, fun i hi => ?_, fun o => ?_⟩
  ·rcases Nat.lt_or_ge g w.heap.size with hlt | hge
   ·exact hlt
   ·rw [Array.getElem?_eq_none hge] at hg; cases hg
  ·have h1 : cur[i]? = (cur.toList.take (l.length * 1))[i]? := by
    rw [List.getElem?_take, if_pos (by omega)]; simp
   have h2 : w.cell? ⟨g, i, none⟩ = cur[i]? := by simp [World.cell?, hg]
   rw [h2, h1, ht]
   simp [zv, List.getD, List.getElem?_eq_getElem hi]
  ·simp [World.frozen?, hg]
theorem ZRow.form {w : World} {base : Nat} {v : Value} {l : List Int} (h : ZRow w base v l) : ∃ (a : Option Addr) (cap : Nat), v = .slice a l.length cap := by
 rcases h.cells with ⟨rfl, rfl⟩ | ⟨g, cap, rfl, _⟩
 ·exact ⟨none, 0, rfl⟩
 ·exact ⟨_, cap, rfl⟩
theorem ZRow.own {w : World} {base : Nat} {v : Value} {l : List Int} (h : ZRow w base v l) : ∀ k, v.ownBlock = some k → base ≤ k := by
 intro k hk
 rcases h.cells with ⟨rfl, _⟩ | ⟨g, cap, rfl, hb, _⟩
 ·cases hk
 ·cases hk; exact hb
theorem ZRow.kept {w w' : World} {base : Nat} {v : Value} {l : List Int} (h : ZRow w base v l) (hb : ∀ k, v.ownBlock = some k → w'.heap[k]? = w.heap[k]?) : ZRow w' base v l := by
 refine ⟨h.1, h.2.imp id ?_⟩
 rintro ⟨g, cap, cur, hv, h1, h2, h3⟩
 subst hv
 exact ⟨g, cap, cur, rfl, h1, (hb g rfl).trans h2, h3⟩
theorem ZRow.alloc {w : World} {base : Nat} {v : Value} {l : List Int} (h : ZRow w base v l) (o : Obj) : ZRow (w.alloc o) base v l := by
 refine h.kept (fun k hk => Below.heap_alloc _ _ _ ?_)
 rcases h.cells with ⟨rfl, rfl⟩ | ⟨g, cap, rfl, _, hlt, _⟩
 ·cases hk
 ·cases hk; exact hlt
theorem zsrc1 (w : World) (x : Int) (t : TypeId) : ZSrcI (w.alloc (.cells #[.int .i64 x] t)) w.heap.size 0 [x] := by
 intro i hi
 have : i = 0 := by simp at hi; omega
 subst this
 simp
theorem zsrc_news {w : World} {g o : Nat} {l : List Int} (h : ZSrcI w g o l) : ∀ j u, (zv l)[j]? = some u → w.cell? ((⟨g, o, none⟩ : Addr).add j) = some u := by
 intro j u hj
 have hjl : j < l.length := by
  rcases Nat.lt_or_ge j l.length with hlt | hge
  ·exact hlt
  ·rw [List.getElem?_eq_none (by rw [zv_len]; exact hge)] at hj; cases hj
 have hadd : (⟨g, o, none⟩ : Addr).add j = ⟨g, o + j, none⟩ := by unfold Addr.add; split <;> simp_all
 rw [hadd, h j hjl]
 simp [zv, List.getElem?_eq_getElem hjl] at hj
 simp [List.getD, List.getElem?_eq_getElem hjl, hj]
theorem zone (l : List Int) : ∀ u ∈ zv l, u.oneCell' = true := by
 intro u hu
 simp [zv] at hu
 obtain ⟨c, _, rfl⟩ := hu
 rfl
theorem ZRow.is {w : World} {base : Nat} {v : Value} {l : List Int} (h : ZRow w base v l) : IS w v l := by
 rcases h.cells with ⟨rfl, rfl⟩ | ⟨g, cap, h1, h2, h3, h4, h5, h6, h7⟩
 ·exact ⟨none, 0, rfl, Nat.le_refl _, by unfold maxLen; omega, fun h => absurd rfl h⟩
 ·exact ⟨_, cap, h1, h4, h5, fun _ => ⟨g, 0, rfl, h3, fun i hi => by rw [Nat.zero_add]; exact h6 i hi⟩⟩
section
variable {ops : Array Oper} {o : Oper} {a : Act} {w : World} {Q : Exit → Act → World → Prop}
theorem wp_appZ {K : Act → World → Prop} (s x : Operand)
  (ho : o.op = .call { callee := .builtin .append, args := #[s, x], argTypes := #[111, 111] })
  (base : Nat) (v : Value) (l : List Int) (hs : a.eval s = v) (hown : ZRow w base v l)
  (g off m c : Nat) (news : List Int) (hx : a.eval x = .slice (some ⟨g, off, none⟩) m c) (hm : news.length = m) (hsrc : ZSrcI w g off news)
  (hlen : l.length + m ≤ 8796093022208) (hbase : base ≤ w.heap.size)
  (h : ∀ v' w', ZRow w' base v' (l ++ news) → Below base w w' → K (a.put o.dst v') w') : o.wp Tryz.prog a w K Q := by
 obtain ⟨i0, hi, hz0, hz1, hz2⟩ := info_parts infoZ
 refine wp_append_own w s x 111 ho base 3 i0 (.int .i64 0) 1 8 Tryz.underlying111 hi hz0 hz1 hz2 rfl (by decide) v l.length (zv l) hs hown ⟨g, off, none⟩ m c (zv news) hx (by rw [zv_len, hm]; omega) (zsrc_news hsrc) (zone news)
  (by unfold maxLen; omega) (by omega) hbase (fun v' w' h2 h3 _ => h v' w' ?_ (grown_below h3 hbase hown.own))
 unfold ZRow
 rw [List.length_append, hm, show zv (l ++ news) = zv l ++ zv news from by simp [zv]]
 exact h2
theorem wpList_appZ {rest : List Oper} (hgd : o.guard = none) (s x : Operand)
  (ho : o.op = .call { callee := .builtin .append, args := #[s, x], argTypes := #[111, 111] })
  (base : Nat) (v : Value) (l : List Int) (hs : a.eval s = v) (hown : ZRow w base v l)
  (g off m c : Nat) (news : List Int) (hx : a.eval x = .slice (some ⟨g, off, none⟩) m c) (hm : news.length = m) (hsrc : ZSrcI w g off news)
  (hlen : l.length + m ≤ 8796093022208) (hbase : base ≤ w.heap.size)
  (h : ∀ v' w', ZRow w' base v' (l ++ news) → Below base w w' → wpList Tryz.prog ops Q rest (a.put o.dst v') w') : wpList Tryz.prog ops Q (o :: rest) a w :=
 wpList_plain hgd fun _ hK => wp_appZ s x ho base v l hs hown g off m c news hx hm hsrc hlen hbase fun v' w' h2 h3 => hK _ _ (h v' w' h2 h3)
end
end Go.Proofs.YthkpmlfaddlieaaGreatDoor
namespace Go.Proofs.YthkpmlfaddlieaaGreatDoor
open Go.RowKit Pl
theorem links_any (h : Int) (w : World) :
  Calls Tryz.prog 86 #[.int .i64 h] w fun e w' => ∃ v, e = .returned v ∧ ZRow w' w.heap.size v (linksF h) ∧ Below w.heap.size w w' := by
 by_cases h1 : h < 1
 ·have d1 : decide (h < 1) = true := by simpa using h1
  rw [linksF_out (.inl h1)]
  clear h1
  go_enter Tryz.func86, Tryz.ntmps86
  go_wp2_with fail
  try go_step3
  try go_wp2_with fail
  rw [Exit.noGoto_ret]
  go_ret
  exact ⟨_, rfl, ZRow.nil _ _, Below.refl _ _⟩
 ·have d1 : decide (h < 1) = false := by simpa using h1
  by_cases h2 : 1048576 < h
  ·have d2 : decide (1048576 < h) = true := by simpa using h2
   rw [linksF_out (.inr h2)]
   clear h1 h2
   go_enter Tryz.func86, Tryz.ntmps86
   go_wp2_with fail
   try go_step3
   try go_wp2_with fail
   rw [Exit.noGoto_ret]
   go_ret
   exact ⟨_, rfl, ZRow.nil _ _, Below.refl _ _⟩
  ·have d2 : decide (1048576 < h) = false := by simpa using h2
   obtain ⟨n, rfl⟩ : ∃ n : Nat, h = n := ⟨h.toNat, by omega⟩
   rw [linksF_in (by omega) (by omega)]
   rw [show ((n : Int)).toNat = n from rfl]
   go_enter Tryz.func86, Tryz.ntmps86
   go_wp2_with fail
   refine wp_scope_jumps 0 (fun a' w' => ∃ (k : Nat) (v u5 u6 u7 u8 u9 u10 u11 u12 u13 u14 u15 u16 u17 u18 u19 u20 u21 u22 u23 : Value), a' = { tmps := #[.int .i64 n, undef, .slice none 0 0, v, .int .i64 ((2 ^ (k + 1) : Nat)), u5, u6, u7, u8, u9, u10, u11, u12, u13, u14, u15, u16, u17, u18, u19, u20, u21, u22, u23], defers := [] } ∧ k ≤ 20 ∧ ZRow w' w.heap.size v (linksTo n k) ∧ Below w.heap.size w w') (fun a' _ => 2000000 - (intOf (a'.tmps.getD 4 undef)).toNat) rfl ?_ ?_
   ·go_wp2_with fail
    go_step3
    have hr := ZRow.nil w w.heap.size
    by_cases hm : n % 2 = 0
    ·have hn2 : 2 ≤ n := by omega
     have e1 : (n : Int).tmod 2 = 0 := by rw [Int.tmod_eq_emod_of_nonneg (by omega)]; omega
     have w1 : IntKind.i64.wrap ((n : Int) - 2) = (n : Int) - 2 := by rw [IntKind.wrap_i64]; omega
     have HL1 : Hid (linksTo n (0 + 1) = [(n : Int) - 2]) := Lib.hid (linksTo_yes (k := 0) hm)
     clear hm
     go_wp2_with (first
      | (at_builtin; refine wpList_appZ rfl (.tmp 15) (.tmp 19) rfl w.heap.size _ [] rfl (hr.alloc _) _ 0 1 1 [(n : Int) - 2] rfl rfl (zsrc1 _ _ _) (by simp) (by simp) ?_; rintro v2 w2' hS2 hb2)
      | fail)
     go_step3
     have hb3 : Below w.heap.size w w2' := (Below.allocS (Below.refl _ _) _).trans hb2
     exact ⟨rfl, 0 + 1, v2, _, _, _, _, _, _, _, _, _, _, _, _, _, _, _, _, _, _, _, rfl, by omega, by rw [HL1.out]; exact hS2, hb3⟩
    ·have e1 : (n : Int).tmod 2 ≠ 0 := by rw [Int.tmod_eq_emod_of_nonneg (by omega)]; omega
     have HE : Hid (linksTo n 20 = []) := Lib.hid (links_stop (k := 0) hm 20)
     go_wp2_with fail
     simp only [Exit.jump]
     go_ret
     exact ⟨_, rfl, by rw [HE.out]; exact ZRow.nil _ _, Below.refl _ _⟩
   ·rintro a' w' ⟨k, v, u5, u6, u7, u8, u9, u10, u11, u12, u13, u14, u15, u16, u17, u18, u19, u20, u21, u22, u23, rfl, hk, hr, hb⟩
    have hp0 := Nat.pow_pos (n := k + 1) (show 0 < 2 by omega)
    have hpw : (2 : Nat) ^ (k + 1 + 1) = 2 ^ (k + 1) * 2 := Nat.pow_succ _ _
    have hp21 : (2 : Nat) ^ (k + 1) ≤ 2 ^ 21 := Nat.pow_le_pow_right (by omega) (by omega)
    have HLY := Lib.hid (fun h => linksTo_yes (h := n) (k := k) h)
    have HST := Lib.hid (fun (h : n % 2 ^ (k + 1) ≠ 0) => links_stop h (20 - k))
    have HLL := Lib.hid (links_len n k)
    have HK : Hid (n % 2 ^ (k + 1) = 0 → k + 1 ≤ 20) := Lib.hid (fun h0 => by
     rcases Nat.lt_or_ge k 20 with h | h
     ·exact h
     ·have h3 : (2 : Nat) ^ 21 ≤ 2 ^ (k + 1) := Nat.pow_le_pow_right (by omega) (by omega)
      have h4 := Nat.le_of_dvd (by omega) (Nat.dvd_of_mod_eq_zero h0)
      omega)
    obtain ⟨va, vc, rfl⟩ := hr.form
    have HR := Lib.hid hr
    clear hr
    generalize hsp : (2 : Nat) ^ (k + 1) = s at *
    generalize hs2 : (2 : Nat) ^ (k + 1 + 1) = s2 at *
    have HS2 := Lib.hid hs2
    have HSP := Lib.hid hsp
    clear hs2 hsp
    have e1 : (n : Int).tmod (s : Int) = ((n % s : Nat) : Int) := by rw [Int.ofNat_tmod]
    have e0 : (s : Int) ≠ 0 := by omega
    by_cases hm : n % s = 0
    ·have hsn : s ≤ n := Nat.le_of_dvd (by omega) (Nat.dvd_of_mod_eq_zero hm)
     rw [hm] at e1
     have HK2 := Lib.hid (HK.out hm)
     have HL2 := Lib.hid (HLY.out hm)
     have w1 : IntKind.i64.wrap ((n : Int) - (s : Int)) = (n : Int) - (s : Int) := by rw [IntKind.wrap_i64]; omega
     have w2 : IntKind.i64.wrap ((s : Int) * 2) = (s : Int) * 2 := by rw [IntKind.wrap_i64]; omega
     clear HK HLY HST hm
     generalize linksTo n k = L at *
     go_wp2_with (first
      | (at_builtin; refine wpList_appZ rfl (.tmp 15) (.tmp 19) rfl w.heap.size _ L rfl (HR.out.alloc _) _ 0 1 1 [(n : Int) - (s : Int)] rfl rfl (zsrc1 _ _ _) (by have := HLL.out; omega) (by have := hb.size; simp; omega) ?_; rintro v2 w2' hS2 hb2)
      | fail)
     go_step3
     have hb3 : Below w.heap.size w w2' := (Below.allocS hb _).trans hb2
     refine ⟨rfl, ⟨k + 1, v2, _, _, _, _, _, _, _, _, _, _, _, _, _, _, _, _, _, _, _, by rw [HS2.out, hpw]; rfl, HK2.out, by rw [HL2.out]; exact hS2, hb3⟩, ?_⟩
     simp [intOf]
     omega
    ·have e2 : ((n % s : Nat) : Int) ≠ 0 := by omega
     have HE : Hid (linksTo n 20 = linksTo n k) := Lib.hid (by rw [← HST.out hm, show k + (20 - k) = 20 from by omega])
     go_wp2_with fail
     simp only [Exit.jump]
     go_ret
     exact ⟨_, rfl, by rw [HE.out]; exact HR.out, hb⟩
end Go.Proofs.YthkpmlfaddlieaaGreatDoor
namespace Go.Proofs.YthkpmlfaddlieaaGreatDoor
open Go.Shelf
def laysCont_ren : Go.Shelf.Ren := ⟨fun | 8 => 110 | 6 => 137 | n => n, fun | 22 => 24 | 23 => 9 | 25 => 165 | 4 => 4 | 3 => 3 | 0 => 0 | n => n, fun | n => n⟩
theorem laysCont : Go.Proofs.SlLaysH.n8 Tryz.prog laysCont_ren := {
 mixed := by kernel_rfl
 f6 := ⟨Tryz.f137.name, by decide, Tryz.func137.trans (congrArg some (by kernel_rfl))⟩
 f8 := ⟨Tryz.f110.name, by decide, Tryz.func110.trans (congrArg some (by kernel_rfl))⟩
 t0 := Tryz.underlying0
 a0 := Tryz.isAgg0
 z0 := Tryz.sizeOf0
 v0 := Tryz.zeroValue0
 t3 := Tryz.underlying3
 a3 := Tryz.isAgg3
 z3 := Tryz.sizeOf3
 v3 := Tryz.zeroValue3
 t4 := Tryz.underlying4
 a4 := Tryz.isAgg4
 z4 := Tryz.sizeOf4
 v4 := Tryz.zeroValue4
 t22 := Tryz.underlying24
 a22 := Tryz.isAgg24
 z22 := Tryz.sizeOf24
 v22 := Tryz.zeroValue24
 a23 := Tryz.isAgg9
 z23 := Tryz.sizeOf9
 t25 := Tryz.underlying165
 a25 := Tryz.isAgg165
 z25 := Tryz.sizeOf165
 v25 := Tryz.zeroValue165 }
end Go.Proofs.YthkpmlfaddlieaaGreatDoor
namespace Go.Proofs.YthkpmlfaddlieaaGreatDoor
open Go.RowKit Pl
theorem cflag_any (b : Bool) (w : World) : Calls Tryz.prog 45 #[.bool b] w fun e w' => e = .returned (.string ⟨List.toArray (flagB b)⟩) ∧ Below w.heap.size w w' := by
 cases b
 ·go_enter Tryz.func45, Tryz.ntmps45
  go_wp2_with fail
  all_goals (go_ret; exact ⟨rfl, Below.refl _ _⟩)
 ·go_enter Tryz.func45, Tryz.ntmps45
  go_wp2_with fail
  all_goals (go_ret; exact ⟨rfl, Below.refl _ _⟩)
end Go.Proofs.YthkpmlfaddlieaaGreatDoor
namespace Go.Proofs.YthkpmlfaddlieaaGreatDoor
open Go.RowKit Go.Shelf Pl
theorem hd_sum (s : Bs) (w : World) : Calls Tryz.prog 108 #[.string ⟨s.toArray⟩] w fun e w' => e = .returned (.bool (decide (s.length = 32))) ∧ w' = w := by
 by_cases h : s.length = 32
 ·have h1 : decide (s.length = 32) = true := by simpa using h
  have h2 : ((s.length : Int) == 32) = true := by simp; omega
  have h3 : decide ((s.length : Int) = 32) = true := by simp; omega
  rw [h1]
  clear h1
  go_enter Tryz.func108, Tryz.ntmps108
  go_wp2_with fail
  go_ret
  exact ⟨by first | rfl | (exact ret_bool (by simp; omega)), rfl⟩
 ·have h1 : decide (s.length = 32) = false := by simpa using h
  have h2 : ((s.length : Int) == 32) = false := by simp; omega
  have h3 : decide ((s.length : Int) = 32) = false := by simp; omega
  rw [h1]
  clear h1
  go_enter Tryz.func108, Tryz.ntmps108
  go_wp2_with fail
  go_ret
  exact ⟨by first | rfl | (exact ret_bool (by simp; omega)), rfl⟩
theorem hd_maybe (s : Bs) (w : World) : Calls Tryz.prog 111 #[.string ⟨s.toArray⟩] w fun e w' => e = .returned (.bool (may32 s)) ∧ w' = w := by
 have hs := fun W => hd_sum s W
 unfold may32
 by_cases h : s = []
 ·subst h
  go_enter Tryz.func111, Tryz.ntmps111
  go_wp2_with fail
  go_ret
  exact ⟨rfl, rfl⟩
 ·have h1 : decide (s = []) = false := by simpa using h
  have h2 : s.isEmpty = false := by simpa using h
  have h3 : (s == []) = false := by simpa using h
  rw [h1, Bool.false_or]
  clear h1 h
  generalize decide (s.length = 32) = x at *
  go_enter Tryz.func111, Tryz.ntmps111
  go_wp2_with fail
  refine (hs _).mono ?_
  rintro e w1 ⟨rfl, rfl⟩
  go_wp2_with fail
  go_ret
  exact ⟨rfl, rfl⟩
theorem hd_in (n most : Int) (w : World) : Calls Tryz.prog 107 #[.int .i64 n, .int .i64 most] w fun e w' => e = .returned (.bool (inH n most)) ∧ w' = w := by
 unfold inH
 by_cases h : 0 ≤ n
 ·have h1 : decide (0 ≤ n) = true := by simpa using h
  rw [h1, Bool.true_and]
  clear h
  by_cases h2 : n ≤ most
  ·have h3 : decide (n ≤ most) = true := by simpa using h2
   rw [h3]
   clear h2
   go_enter Tryz.func107, Tryz.ntmps107
   go_wp2_with fail
   go_ret
   exact ⟨rfl, rfl⟩
  ·have h3 : decide (n ≤ most) = false := by simpa using h2
   rw [h3]
   clear h2
   go_enter Tryz.func107, Tryz.ntmps107
   go_wp2_with fail
   go_ret
   exact ⟨rfl, rfl⟩
 ·have h1 : decide (0 ≤ n) = false := by simpa using h
  rw [h1, Bool.false_and]
  clear h
  go_enter Tryz.func107, Tryz.ntmps107
  go_wp2_with fail
  go_ret
  exact ⟨rfl, rfl⟩
theorem hd_numbers (a1 a2 a3 : Int) (lb : Bool) (pa st rc tx me ne : Bs) (sk : Value) (w : World) :
  Calls Tryz.prog 72 #[.agg #[.int .i64 a1, .int .i64 a2, .int .i64 a3, .bool lb, .string ⟨pa.toArray⟩, .string ⟨st.toArray⟩, .string ⟨rc.toArray⟩, .string ⟨tx.toArray⟩, .string ⟨me.toArray⟩, .string ⟨ne.toArray⟩, sk]] w fun e w' => e = .returned (.bool (inH a1 1048576 && inH a2 1048576 && inH a3 1048576)) ∧ Below w.heap.size w w' := by
 have hb0 : Below w.heap.size w (w.alloc (.cells #[.int .i64 a1, .int .i64 a2, .int .i64 a3, .bool lb, .string ⟨pa.toArray⟩, .string ⟨st.toArray⟩, .string ⟨rc.toArray⟩, .string ⟨tx.toArray⟩, .string ⟨me.toArray⟩, .string ⟨ne.toArray⟩, sk] 48)) := Below.allocS (Below.refl _ _) _
 have B0 : Blk (w.alloc (.cells #[.int .i64 a1, .int .i64 a2, .int .i64 a3, .bool lb, .string ⟨pa.toArray⟩, .string ⟨st.toArray⟩, .string ⟨rc.toArray⟩, .string ⟨tx.toArray⟩, .string ⟨me.toArray⟩, .string ⟨ne.toArray⟩, sk] 48)) w.heap.size #[.int .i64 a1, .int .i64 a2, .int .i64 a3, .bool lb, .string ⟨pa.toArray⟩, .string ⟨st.toArray⟩, .string ⟨rc.toArray⟩, .string ⟨tx.toArray⟩, .string ⟨me.toArray⟩, .string ⟨ne.toArray⟩, sk] := Blk.new _ _ _
 obtain ⟨b1, b2, b3⟩ := id B0
 have q1 := fun W => hd_in a1 1048576 W
 have q2 := fun W => hd_in a2 1048576 W
 have q3 := fun W => hd_in a3 1048576 W
 generalize inH a1 1048576 = x1 at *
 generalize inH a2 1048576 = x2 at *
 generalize inH a3 1048576 = x3 at *
 clear B0
 cases x1
 ·go_enter Tryz.func72, Tryz.ntmps72
  go_wp2_with fail
  refine (q1 _).mono ?_
  rintro e w1 ⟨rfl, rfl⟩
  go_wp2_with fail
  go_ret
  exact ⟨rfl, hb0⟩
 ·cases x2
  ·go_enter Tryz.func72, Tryz.ntmps72
   go_wp2_with fail
   refine (q1 _).mono ?_
   rintro e w1 ⟨rfl, rfl⟩
   go_wp2_with fail
   refine (q2 _).mono ?_
   rintro e w1 ⟨rfl, rfl⟩
   go_wp2_with fail
   go_ret
   exact ⟨rfl, hb0⟩
  ·go_enter Tryz.func72, Tryz.ntmps72
   go_wp2_with fail
   refine (q1 _).mono ?_
   rintro e w1 ⟨rfl, rfl⟩
   go_wp2_with fail
   refine (q2 _).mono ?_
   rintro e w1 ⟨rfl, rfl⟩
   go_wp2_with fail
   refine (q3 _).mono ?_
   rintro e w1 ⟨rfl, rfl⟩
   go_wp2_with fail
   go_ret
   exact ⟨rfl, hb0⟩
theorem hd_first (a1 a2 a3 : Int) (lb : Bool) (pa st rc tx me ne : Bs) (K : List Bs) (sk : Value) (w : World) :
  Calls Tryz.prog 73 #[.agg #[.int .i64 a1, .int .i64 a2, .int .i64 a3, .bool lb, .string ⟨pa.toArray⟩, .string ⟨st.toArray⟩, .string ⟨rc.toArray⟩, .string ⟨tx.toArray⟩, .string ⟨me.toArray⟩, .string ⟨ne.toArray⟩, sk]] w fun e w' => e = .returned (.bool (firstH ⟨a1, a2, a3, lb, pa, st, rc, tx, me, ne, K⟩)) ∧ Below w.heap.size w w' := by
 have hb0 : Below w.heap.size w (w.alloc (.cells #[.int .i64 a1, .int .i64 a2, .int .i64 a3, .bool lb, .string ⟨pa.toArray⟩, .string ⟨st.toArray⟩, .string ⟨rc.toArray⟩, .string ⟨tx.toArray⟩, .string ⟨me.toArray⟩, .string ⟨ne.toArray⟩, sk] 48)) := Below.allocS (Below.refl _ _) _
 have B0 : Blk (w.alloc (.cells #[.int .i64 a1, .int .i64 a2, .int .i64 a3, .bool lb, .string ⟨pa.toArray⟩, .string ⟨st.toArray⟩, .string ⟨rc.toArray⟩, .string ⟨tx.toArray⟩, .string ⟨me.toArray⟩, .string ⟨ne.toArray⟩, sk] 48)) w.heap.size #[.int .i64 a1, .int .i64 a2, .int .i64 a3, .bool lb, .string ⟨pa.toArray⟩, .string ⟨st.toArray⟩, .string ⟨rc.toArray⟩, .string ⟨tx.toArray⟩, .string ⟨me.toArray⟩, .string ⟨ne.toArray⟩, sk] := Blk.new _ _ _
 obtain ⟨b1, b2, b3⟩ := id B0
 clear B0
 unfold firstH
 simp only
 by_cases h1 : 0 < a1
 ·have q1 := fun W => hd_sum pa W
  have d1 : decide (0 < a1) = true := by simpa using h1
  rw [if_pos h1]
  clear h1
  generalize decide (pa.length = 32) = x1 at *
  go_enter Tryz.func73, Tryz.ntmps73
  go_wp2_with fail
  refine (q1 _).mono ?_
  rintro e w1 ⟨rfl, rfl⟩
  go_wp2_with fail
  go_ret
  exact ⟨rfl, hb0⟩
 ·have d1 : decide (0 < a1) = false := by simpa using h1
  rw [if_neg h1]
  clear h1
  by_cases h2 : pa = []
  ·subst h2
   by_cases h3 : a2 = 0
   ·subst h3
    by_cases h4 : a3 = 0
    ·subst h4
     simp only [decide_true, Bool.true_and]
     go_enter Tryz.func73, Tryz.ntmps73
     go_wp2_with fail
     go_ret
     exact ⟨rfl, hb0⟩
    ·have e1 : (a3 == 0) = false := by simpa using h4
     have e2 : decide (a3 = 0) = false := by simpa using h4
     rw [e2, Bool.and_false, Bool.false_and]
     clear h4
     go_enter Tryz.func73, Tryz.ntmps73
     go_wp2_with fail
     go_ret
     exact ⟨rfl, hb0⟩
   ·have e1 : (a2 == 0) = false := by simpa using h3
    have e2 : decide (a2 = 0) = false := by simpa using h3
    rw [e2, Bool.and_false, Bool.false_and, Bool.false_and]
    clear h3
    go_enter Tryz.func73, Tryz.ntmps73
    go_wp2_with fail
    go_ret
    exact ⟨rfl, hb0⟩
  ·have e1 : decide (pa = []) = false := by simpa using h2
   have e2 : pa.isEmpty = false := by simpa using h2
   have e3 : (pa == []) = false := by simpa using h2
   rw [e1, Bool.false_and, Bool.false_and, Bool.false_and]
   clear h2
   go_enter Tryz.func73, Tryz.ntmps73
   go_wp2_with fail
   go_ret
   exact ⟨rfl, hb0⟩
def oddS (l : List Bs) : Bool := l.any (fun s => !decide (s.length = 32))
theorem odd_all (l : List Bs) : (!oddS l) = l.all (fun s => decide (s.length = 32)) := by
 unfold oddS
 rw [List.not_any_eq_all_not]
 simp
theorem hd_odd (s : Bs) (w : World) : Calls Tryz.prog 109 #[.string ⟨s.toArray⟩] w fun e w' => e = .returned (.bool (!decide (s.length = 32))) ∧ w' = w := by
 have q1 := fun W => hd_sum s W
 generalize decide (s.length = 32) = x at *
 go_enter Tryz.func109, Tryz.ntmps109
 go_wp2_with fail
 refine (q1 _).mono ?_
 rintro e w1 ⟨rfl, rfl⟩
 go_wp2_with fail
 go_ret
 exact ⟨rfl, rfl⟩
theorem contains_any (v : Value) (l : List Bs) (w : World) (hv : SS w v l) :
  Calls Tryz.prog 110 #[v, .func (.func 109) #[] #[]] w fun e w' => e = .returned (.bool (oddS l)) ∧ ∃ q, w' = w.drewN q := by
 obtain ⟨a, cap, rfl, h1, h2, h3⟩ := hv
 by_cases hl : l = []
 ·subst hl
  refine (AnyE.slices_ContainsFunc_empty laysCont a cap _ w).mono ?_
  rintro e w' ⟨rfl, rfl⟩
  exact ⟨rfl, 0, rfl⟩
 ·obtain ⟨g, off, rfl, hg, hc⟩ := h3 hl
  have := AnyE.slices_ContainsFunc laysCont (fun s : Bs => .string ⟨s.toArray⟩) (fun s => !decide (s.length = 32)) 109 #[] (enters_of (Tryz.func109) (by decide) rfl) g off l.length cap l w (fun W x _ => (hd_odd x W).mono (fun e w' ⟨h, h'⟩ => ⟨h, 0, h'⟩)) (Nat.le_refl _) (by unfold maxLen at h2; omega) (fun j hj => by
   rw [hc j hj]
   simp [List.getD, hj])
  rw [List.take_length] at this
  exact this
end Go.Proofs.YthkpmlfaddlieaaGreatDoor
namespace Go.Proofs.YthkpmlfaddlieaaGreatDoor
open Go.RowKit Go.Shelf Pl
theorem hd_sums (a1 a2 a3 : Int) (lb : Bool) (pa st rc tx me ne : Bs) (K : List Bs) (sk : Value) (w : World) (hk : SS w sk K) :
  Calls Tryz.prog 74 #[.agg #[.int .i64 a1, .int .i64 a2, .int .i64 a3, .bool lb, .string ⟨pa.toArray⟩, .string ⟨st.toArray⟩, .string ⟨rc.toArray⟩, .string ⟨tx.toArray⟩, .string ⟨me.toArray⟩, .string ⟨ne.toArray⟩, sk]] w fun e w' => e = .returned (.bool (sumsH ⟨a1, a2, a3, lb, pa, st, rc, tx, me, ne, K⟩)) ∧ Below w.heap.size w w' := by
 obtain ⟨ka, kc, rfl⟩ := hk.form
 have HK := Lib.hid hk
 have HKS := Lib.hid hk.small
 generalize hsk : Value.slice ka K.length kc = sk at *
 have hb0 : Below w.heap.size w (w.alloc (.cells #[.int .i64 a1, .int .i64 a2, .int .i64 a3, .bool lb, .string ⟨pa.toArray⟩, .string ⟨st.toArray⟩, .string ⟨rc.toArray⟩, .string ⟨tx.toArray⟩, .string ⟨me.toArray⟩, .string ⟨ne.toArray⟩, sk] 48)) := Below.allocS (Below.refl _ _) _
 have B0 : Blk (w.alloc (.cells #[.int .i64 a1, .int .i64 a2, .int .i64 a3, .bool lb, .string ⟨pa.toArray⟩, .string ⟨st.toArray⟩, .string ⟨rc.toArray⟩, .string ⟨tx.toArray⟩, .string ⟨me.toArray⟩, .string ⟨ne.toArray⟩, sk] 48)) w.heap.size #[.int .i64 a1, .int .i64 a2, .int .i64 a3, .bool lb, .string ⟨pa.toArray⟩, .string ⟨st.toArray⟩, .string ⟨rc.toArray⟩, .string ⟨tx.toArray⟩, .string ⟨me.toArray⟩, .string ⟨ne.toArray⟩, sk] := Blk.new _ _ _
 obtain ⟨b1, b2, b3⟩ := id B0
 have hcn := fun W (hb : Below w.heap.size w W) => contains_any sk K W (HK.out.keep hb)
 have HOA := Lib.hid (odd_all K)
 unfold sumsH endH
 simp only
 rw [← HOA.out]
 have HLF := Lib.hid (linksF_len a1)
 have hsk2 := hsk
 subst hsk
 clear hk HOA
 have q1 := fun W => hd_sum tx W
 have q2 := fun W => hd_sum me W
 have q3 := fun W => hd_sum ne W
 have q4 := fun W => hd_maybe st W
 have q5 := fun W => hd_maybe rc W
 generalize decide (tx.length = 32) = x1 at *
 generalize decide (me.length = 32) = x2 at *
 generalize decide (ne.length = 32) = x3 at *
 generalize may32 st = x4 at *
 generalize may32 rc = x5 at *
 by_cases h1 : 0 < a1
 ·have d1 : decide (0 < a1) = true := by simpa using h1
  rw [if_pos h1]
  clear h1
  have hli := fun W => links_any a1 W
  generalize linksF a1 = LK at *
  generalize oddS K = xo at *
  by_cases hle : K.length = LK.length
  ·have e1 : ((K.length : Int) == (LK.length : Int)) = true := by simp; omega
   have e2 : decide (K.length = LK.length) = true := by simpa using hle
   have e3 : decide ((K.length : Int) = (LK.length : Int)) = true := by simp; omega
   rw [e2, Bool.true_and]
   clear hle
   cases xo
   ·simp only [Bool.not_false, Bool.true_and]
    go_enter Tryz.func74, Tryz.ntmps74
    go_wp2_with fail
    refine wpH_start (by kernel_rfl) (fun hS => ?_)
    (refine hP 0 ?_ ⟨some 14, .fieldAddr 48 (.tmp 1) 10, 0, "", #[], none⟩ hS ?_ ?_; rotate_left; focus (intro w; go_simp; try with_reducible rfl))
    try simp only [pna, pnb, pnc, pnd, pne]
    refine wpH_load 1 (.slice ka K.length kc) (oi := ⟨some 15,.load 24 (.tmp 14),24,"header.go:37",#[⟨0,.data⟩],none⟩) rfl (by kernel_rfl) (by kernel_rfl) (by kernel_rfl) (by rfl) hS (fun _ _ _ h => h) (fun w hb2 => (by have c := (B0.keep hb2).cell 10; go_simp; try rfl)) ?_
    try simp only [pna, pnb, pnc, pnd, pne]
    (refine hP 2 ?_ ⟨some 16, .call { callee := .builtin .len, args := #[.tmp 15], argTypes := #[24] }, 3, "", #[], none⟩ hS ?_ ?_; rotate_left; focus (intro w; go_simp; try with_reducible rfl))
    try simp only [pna, pnb, pnc, pnd, pne]
    (refine hP 3 ?_ ⟨some 17, .fieldAddr 48 (.tmp 1) 0, 0, "", #[], none⟩ hS ?_ ?_; rotate_left; focus (intro w; go_simp; try with_reducible rfl))
    try simp only [pna, pnb, pnc, pnd, pne]
    refine wpH_load 4 (.int .i64 a1) (oi := ⟨some 18,.load 3 (.tmp 17),3,"header.go:37",#[⟨3,.data⟩],none⟩) rfl (by kernel_rfl) (by kernel_rfl) (by kernel_rfl) (by rfl) hS (fun _ _ _ h => h) (fun w hb2 => (by have c := (B0.keep hb2).cell 0; go_simp; try rfl)) ?_
    try simp only [pna, pnb, pnc, pnd, pne]
    refine wpH_call 5 (oi := ⟨some 19,.call { callee := .value (.func 86), args := #[.tmp 18], argTypes := #[3] },111,"header.go:37",#[⟨4,.data⟩],none⟩) rfl (by kernel_rfl) (by rfl) (hli _) ?_ ?_
    ·(go_simp; try rfl)
    rintro e w' ⟨vl, rfl, hzl, hbx⟩
    refine ⟨_, rfl, hS.trans (hbx.mono hS.size), ?_⟩
    replace hS := hS.trans (hbx.mono hS.size)
    obtain ⟨za, zc, rfl⟩ := hzl.form
    try simp only [pna, pnb, pnc, pnd, pne]
    (refine hP 6 ?_ ⟨some 20, .call { callee := .builtin .len, args := #[.tmp 19], argTypes := #[111] }, 3, "", #[], none⟩ hS ?_ ?_; rotate_left; focus (intro w; go_simp; try with_reducible rfl))
    try simp only [pna, pnb, pnc, pnd, pne]
    (refine hP 7 ?_ ⟨some 21, .binOp .eql 3 (.tmp 16) (.tmp 20) 3, 4, "", #[], none⟩ hS ?_ ?_; rotate_left; focus (intro w; go_simp; try with_reducible rfl))
    try simp only [pna, pnb, pnc, pnd, pne]
    (refine hP 8 ?_ ⟨some 22, .move (.tmp 21), 4, "", #[], none⟩ hS ?_ ?_; rotate_left; focus (intro w; go_simp; try with_reducible rfl))
    try simp only [pna, pnb, pnc, pnd, pne]
    (first | (refine hN 9 ⟨some 23, .fieldAddr 48 (.tmp 1) 10, 0, "", #[], some (8, true)⟩ hS ?_) | (refine hP 9 ?_ ⟨some 23, .fieldAddr 48 (.tmp 1) 10, 0, "", #[], some (8, true)⟩ hS ?_ ?_; rotate_left; focus (intro w; go_simp; try with_reducible rfl)))
    try simp only [pna, pnb, pnc, pnd, pne]
    refine wpH_load 10 (.slice ka K.length kc) (oi := ⟨some 24,.load 24 (.tmp 23),24,"header.go:37",#[⟨9,.data⟩, ⟨8,.guard⟩],some (8, true)⟩) rfl (by kernel_rfl) (by kernel_rfl) (by kernel_rfl) (by rfl) hS (fun _ _ _ h => h) (fun w hb2 => (by have c := (B0.keep hb2).cell 10; go_simp; try rfl)) ?_
    try simp only [pna, pnb, pnc, pnd, pne]
    (first | (refine hN 11 ⟨some 25, .move (.tmp 3), 165, "", #[], some (8, true)⟩ hS ?_) | (refine hP 11 ?_ ⟨some 25, .move (.tmp 3), 165, "", #[], some (8, true)⟩ hS ?_ ?_; rotate_left; focus (intro w; go_simp; try with_reducible rfl)))
    try simp only [pna, pnb, pnc, pnd, pne]
    refine wpH_call 12 (oi := ⟨some 26,.call { callee := .value (.func 110), args := #[.tmp 24, .tmp 25], argTypes := #[24, 165] },4,"header.go:37",#[⟨10,.data⟩, ⟨11,.data⟩, ⟨8,.chain⟩, ⟨8,.guard⟩],some (8, true)⟩) rfl (by kernel_rfl) (by rfl) (hcn _ (hb0.trans (hS.mono hb0.size))) ?_ ?_
    ·(go_simp; try rfl)
    rintro e w' ⟨rfl, nn, rfl⟩
    refine ⟨_, rfl, below_drewN hS nn, ?_⟩
    replace hS := below_drewN hS nn
    try simp only [pna, pnb, pnc, pnd, pne]
    (first | (refine hN 13 ⟨some 27, .unOp .not 4 (.tmp 26), 4, "", #[], some (8, true)⟩ hS ?_) | (refine hP 13 ?_ ⟨some 27, .unOp .not 4 (.tmp 26), 4, "", #[], some (8, true)⟩ hS ?_ ?_; rotate_left; focus (intro w; go_simp; try with_reducible rfl)))
    try simp only [pna, pnb, pnc, pnd, pne]
    (refine hP 14 ?_ ⟨some 28, .pick (.tmp 22) (.tmp 27) (.const (.bool false)), 4, "", #[], none⟩ hS ?_ ?_; rotate_left; focus (intro w; go_simp; try with_reducible rfl))
    try simp only [pna, pnb, pnc, pnd, pne]
    (refine hP 15 ?_ ⟨some 4, .assign (.tmp 28), 4, "", #[], none⟩ hS ?_ ?_; rotate_left; focus (intro w; go_simp; try with_reducible rfl))
    try simp only [pna, pnb, pnc, pnd, pne]
    refine wpAnyH_done (by kernel_rfl) ?_ _
    have hbZ := hb0.trans (hS.mono hb0.size)
    obtain ⟨b1, b2, b3⟩ := id (B0.keep hS)
    clear hcn hli hzl B0 hb0 hS
    cases x1
    ·go_wp2_with fail
     refine (q1 _).mono ?_
     rintro e w1 ⟨rfl, rfl⟩
     go_wp2_with fail
     go_ret
     exact ⟨rfl, hbZ⟩
    ·cases x2
     ·go_wp2_with fail
      refine (q1 _).mono ?_
      rintro e w1 ⟨rfl, rfl⟩
      go_wp2_with fail
      refine (q2 _).mono ?_
      rintro e w1 ⟨rfl, rfl⟩
      go_wp2_with fail
      go_ret
      exact ⟨rfl, hbZ⟩
     ·cases x3
      ·go_wp2_with fail
       refine (q1 _).mono ?_
       rintro e w1 ⟨rfl, rfl⟩
       go_wp2_with fail
       refine (q2 _).mono ?_
       rintro e w1 ⟨rfl, rfl⟩
       go_wp2_with fail
       refine (q3 _).mono ?_
       rintro e w1 ⟨rfl, rfl⟩
       go_wp2_with fail
       go_ret
       exact ⟨rfl, hbZ⟩
      ·cases x4
       ·go_wp2_with fail
        refine (q1 _).mono ?_
        rintro e w1 ⟨rfl, rfl⟩
        go_wp2_with fail
        refine (q2 _).mono ?_
        rintro e w1 ⟨rfl, rfl⟩
        go_wp2_with fail
        refine (q3 _).mono ?_
        rintro e w1 ⟨rfl, rfl⟩
        go_wp2_with fail
        refine (q4 _).mono ?_
        rintro e w1 ⟨rfl, rfl⟩
        go_wp2_with fail
        go_ret
        exact ⟨rfl, hbZ⟩
       ·go_wp2_with fail
        refine (q1 _).mono ?_
        rintro e w1 ⟨rfl, rfl⟩
        go_wp2_with fail
        refine (q2 _).mono ?_
        rintro e w1 ⟨rfl, rfl⟩
        go_wp2_with fail
        refine (q3 _).mono ?_
        rintro e w1 ⟨rfl, rfl⟩
        go_wp2_with fail
        refine (q4 _).mono ?_
        rintro e w1 ⟨rfl, rfl⟩
        go_wp2_with fail
        refine (q5 _).mono ?_
        rintro e w1 ⟨rfl, rfl⟩
        go_wp2_with fail
        go_ret
        exact ⟨rfl, hbZ⟩
   ·simp only [Bool.not_true, Bool.false_and]
    go_enter Tryz.func74, Tryz.ntmps74
    go_wp2_with fail
    refine wpH_start (by kernel_rfl) (fun hS => ?_)
    (refine hP 0 ?_ ⟨some 14, .fieldAddr 48 (.tmp 1) 10, 0, "", #[], none⟩ hS ?_ ?_; rotate_left; focus (intro w; go_simp; try with_reducible rfl))
    try simp only [pna, pnb, pnc, pnd, pne]
    refine wpH_load 1 (.slice ka K.length kc) (oi := ⟨some 15,.load 24 (.tmp 14),24,"header.go:37",#[⟨0,.data⟩],none⟩) rfl (by kernel_rfl) (by kernel_rfl) (by kernel_rfl) (by rfl) hS (fun _ _ _ h => h) (fun w hb2 => (by have c := (B0.keep hb2).cell 10; go_simp; try rfl)) ?_
    try simp only [pna, pnb, pnc, pnd, pne]
    (refine hP 2 ?_ ⟨some 16, .call { callee := .builtin .len, args := #[.tmp 15], argTypes := #[24] }, 3, "", #[], none⟩ hS ?_ ?_; rotate_left; focus (intro w; go_simp; try with_reducible rfl))
    try simp only [pna, pnb, pnc, pnd, pne]
    (refine hP 3 ?_ ⟨some 17, .fieldAddr 48 (.tmp 1) 0, 0, "", #[], none⟩ hS ?_ ?_; rotate_left; focus (intro w; go_simp; try with_reducible rfl))
    try simp only [pna, pnb, pnc, pnd, pne]
    refine wpH_load 4 (.int .i64 a1) (oi := ⟨some 18,.load 3 (.tmp 17),3,"header.go:37",#[⟨3,.data⟩],none⟩) rfl (by kernel_rfl) (by kernel_rfl) (by kernel_rfl) (by rfl) hS (fun _ _ _ h => h) (fun w hb2 => (by have c := (B0.keep hb2).cell 0; go_simp; try rfl)) ?_
    try simp only [pna, pnb, pnc, pnd, pne]
    refine wpH_call 5 (oi := ⟨some 19,.call { callee := .value (.func 86), args := #[.tmp 18], argTypes := #[3] },111,"header.go:37",#[⟨4,.data⟩],none⟩) rfl (by kernel_rfl) (by rfl) (hli _) ?_ ?_
    ·(go_simp; try rfl)
    rintro e w' ⟨vl, rfl, hzl, hbx⟩
    refine ⟨_, rfl, hS.trans (hbx.mono hS.size), ?_⟩
    replace hS := hS.trans (hbx.mono hS.size)
    obtain ⟨za, zc, rfl⟩ := hzl.form
    try simp only [pna, pnb, pnc, pnd, pne]
    (refine hP 6 ?_ ⟨some 20, .call { callee := .builtin .len, args := #[.tmp 19], argTypes := #[111] }, 3, "", #[], none⟩ hS ?_ ?_; rotate_left; focus (intro w; go_simp; try with_reducible rfl))
    try simp only [pna, pnb, pnc, pnd, pne]
    (refine hP 7 ?_ ⟨some 21, .binOp .eql 3 (.tmp 16) (.tmp 20) 3, 4, "", #[], none⟩ hS ?_ ?_; rotate_left; focus (intro w; go_simp; try with_reducible rfl))
    try simp only [pna, pnb, pnc, pnd, pne]
    (refine hP 8 ?_ ⟨some 22, .move (.tmp 21), 4, "", #[], none⟩ hS ?_ ?_; rotate_left; focus (intro w; go_simp; try with_reducible rfl))
    try simp only [pna, pnb, pnc, pnd, pne]
    (first | (refine hN 9 ⟨some 23, .fieldAddr 48 (.tmp 1) 10, 0, "", #[], some (8, true)⟩ hS ?_) | (refine hP 9 ?_ ⟨some 23, .fieldAddr 48 (.tmp 1) 10, 0, "", #[], some (8, true)⟩ hS ?_ ?_; rotate_left; focus (intro w; go_simp; try with_reducible rfl)))
    try simp only [pna, pnb, pnc, pnd, pne]
    refine wpH_load 10 (.slice ka K.length kc) (oi := ⟨some 24,.load 24 (.tmp 23),24,"header.go:37",#[⟨9,.data⟩, ⟨8,.guard⟩],some (8, true)⟩) rfl (by kernel_rfl) (by kernel_rfl) (by kernel_rfl) (by rfl) hS (fun _ _ _ h => h) (fun w hb2 => (by have c := (B0.keep hb2).cell 10; go_simp; try rfl)) ?_
    try simp only [pna, pnb, pnc, pnd, pne]
    (first | (refine hN 11 ⟨some 25, .move (.tmp 3), 165, "", #[], some (8, true)⟩ hS ?_) | (refine hP 11 ?_ ⟨some 25, .move (.tmp 3), 165, "", #[], some (8, true)⟩ hS ?_ ?_; rotate_left; focus (intro w; go_simp; try with_reducible rfl)))
    try simp only [pna, pnb, pnc, pnd, pne]
    refine wpH_call 12 (oi := ⟨some 26,.call { callee := .value (.func 110), args := #[.tmp 24, .tmp 25], argTypes := #[24, 165] },4,"header.go:37",#[⟨10,.data⟩, ⟨11,.data⟩, ⟨8,.chain⟩, ⟨8,.guard⟩],some (8, true)⟩) rfl (by kernel_rfl) (by rfl) (hcn _ (hb0.trans (hS.mono hb0.size))) ?_ ?_
    ·(go_simp; try rfl)
    rintro e w' ⟨rfl, nn, rfl⟩
    refine ⟨_, rfl, below_drewN hS nn, ?_⟩
    replace hS := below_drewN hS nn
    try simp only [pna, pnb, pnc, pnd, pne]
    (first | (refine hN 13 ⟨some 27, .unOp .not 4 (.tmp 26), 4, "", #[], some (8, true)⟩ hS ?_) | (refine hP 13 ?_ ⟨some 27, .unOp .not 4 (.tmp 26), 4, "", #[], some (8, true)⟩ hS ?_ ?_; rotate_left; focus (intro w; go_simp; try with_reducible rfl)))
    try simp only [pna, pnb, pnc, pnd, pne]
    (refine hP 14 ?_ ⟨some 28, .pick (.tmp 22) (.tmp 27) (.const (.bool false)), 4, "", #[], none⟩ hS ?_ ?_; rotate_left; focus (intro w; go_simp; try with_reducible rfl))
    try simp only [pna, pnb, pnc, pnd, pne]
    (refine hP 15 ?_ ⟨some 4, .assign (.tmp 28), 4, "", #[], none⟩ hS ?_ ?_; rotate_left; focus (intro w; go_simp; try with_reducible rfl))
    try simp only [pna, pnb, pnc, pnd, pne]
    refine wpAnyH_done (by kernel_rfl) ?_ _
    have hbZ := hb0.trans (hS.mono hb0.size)
    obtain ⟨b1, b2, b3⟩ := id (B0.keep hS)
    clear hcn hli hzl B0 hb0 hS
    go_wp2_with fail
    go_ret
    exact ⟨rfl, hbZ⟩
  ·have e1 : ((K.length : Int) == (LK.length : Int)) = false := by simp; omega
   have e2 : decide (K.length = LK.length) = false := by simpa using hle
   have e3 : decide ((K.length : Int) = (LK.length : Int)) = false := by simp; omega
   have e4 : (K.length == LK.length) = false := by simpa using hle
   rw [e2, Bool.false_and, Bool.false_and]
   clear hle
   go_enter Tryz.func74, Tryz.ntmps74
   go_wp2_with fail
   refine wpH_start (by kernel_rfl) (fun hS => ?_)
   (refine hP 0 ?_ ⟨some 14, .fieldAddr 48 (.tmp 1) 10, 0, "", #[], none⟩ hS ?_ ?_; rotate_left; focus (intro w; go_simp; try with_reducible rfl))
   try simp only [pna, pnb, pnc, pnd, pne]
   refine wpH_load 1 (.slice ka K.length kc) (oi := ⟨some 15,.load 24 (.tmp 14),24,"header.go:37",#[⟨0,.data⟩],none⟩) rfl (by kernel_rfl) (by kernel_rfl) (by kernel_rfl) (by rfl) hS (fun _ _ _ h => h) (fun w hb2 => (by have c := (B0.keep hb2).cell 10; go_simp; try rfl)) ?_
   try simp only [pna, pnb, pnc, pnd, pne]
   (refine hP 2 ?_ ⟨some 16, .call { callee := .builtin .len, args := #[.tmp 15], argTypes := #[24] }, 3, "", #[], none⟩ hS ?_ ?_; rotate_left; focus (intro w; go_simp; try with_reducible rfl))
   try simp only [pna, pnb, pnc, pnd, pne]
   (refine hP 3 ?_ ⟨some 17, .fieldAddr 48 (.tmp 1) 0, 0, "", #[], none⟩ hS ?_ ?_; rotate_left; focus (intro w; go_simp; try with_reducible rfl))
   try simp only [pna, pnb, pnc, pnd, pne]
   refine wpH_load 4 (.int .i64 a1) (oi := ⟨some 18,.load 3 (.tmp 17),3,"header.go:37",#[⟨3,.data⟩],none⟩) rfl (by kernel_rfl) (by kernel_rfl) (by kernel_rfl) (by rfl) hS (fun _ _ _ h => h) (fun w hb2 => (by have c := (B0.keep hb2).cell 0; go_simp; try rfl)) ?_
   try simp only [pna, pnb, pnc, pnd, pne]
   refine wpH_call 5 (oi := ⟨some 19,.call { callee := .value (.func 86), args := #[.tmp 18], argTypes := #[3] },111,"header.go:37",#[⟨4,.data⟩],none⟩) rfl (by kernel_rfl) (by rfl) (hli _) ?_ ?_
   ·(go_simp; try rfl)
   rintro e w' ⟨vl, rfl, hzl, hbx⟩
   refine ⟨_, rfl, hS.trans (hbx.mono hS.size), ?_⟩
   replace hS := hS.trans (hbx.mono hS.size)
   obtain ⟨za, zc, rfl⟩ := hzl.form
   try simp only [pna, pnb, pnc, pnd, pne]
   (refine hP 6 ?_ ⟨some 20, .call { callee := .builtin .len, args := #[.tmp 19], argTypes := #[111] }, 3, "", #[], none⟩ hS ?_ ?_; rotate_left; focus (intro w; go_simp; try with_reducible rfl))
   try simp only [pna, pnb, pnc, pnd, pne]
   (refine hP 7 ?_ ⟨some 21, .binOp .eql 3 (.tmp 16) (.tmp 20) 3, 4, "", #[], none⟩ hS ?_ ?_; rotate_left; focus (intro w; go_simp; try with_reducible rfl))
   try simp only [pna, pnb, pnc, pnd, pne]
   (refine hP 8 ?_ ⟨some 22, .move (.tmp 21), 4, "", #[], none⟩ hS ?_ ?_; rotate_left; focus (intro w; go_simp; try with_reducible rfl))
   try simp only [pna, pnb, pnc, pnd, pne]
   (first | (refine hN 9 ⟨some 23, .fieldAddr 48 (.tmp 1) 10, 0, "", #[], some (8, true)⟩ hS ?_) | (refine hP 9 ?_ ⟨some 23, .fieldAddr 48 (.tmp 1) 10, 0, "", #[], some (8, true)⟩ hS ?_ ?_; rotate_left; focus (intro w; go_simp; try with_reducible rfl)))
   try simp only [pna, pnb, pnc, pnd, pne]
   refine hN 10 ⟨some 24, .load 24 (.tmp 23), 24, "", #[], some (8, true)⟩ hS ?_
   try simp only [pna, pnb, pnc, pnd, pne]
   (first | (refine hN 11 ⟨some 25, .move (.tmp 3), 165, "", #[], some (8, true)⟩ hS ?_) | (refine hP 11 ?_ ⟨some 25, .move (.tmp 3), 165, "", #[], some (8, true)⟩ hS ?_ ?_; rotate_left; focus (intro w; go_simp; try with_reducible rfl)))
   try simp only [pna, pnb, pnc, pnd, pne]
   refine hN 12 ⟨some 26, .call { callee := .value (.func 110), args := #[.tmp 24, .tmp 25], argTypes := #[24, 165] }, 4, "", #[], some (8, true)⟩ hS ?_
   try simp only [pna, pnb, pnc, pnd, pne]
   (first | (refine hN 13 ⟨some 27, .unOp .not 4 (.tmp 26), 4, "", #[], some (8, true)⟩ hS ?_) | (refine hP 13 ?_ ⟨some 27, .unOp .not 4 (.tmp 26), 4, "", #[], some (8, true)⟩ hS ?_ ?_; rotate_left; focus (intro w; go_simp; try with_reducible rfl)))
   try simp only [pna, pnb, pnc, pnd, pne]
   (refine hP 14 ?_ ⟨some 28, .pick (.tmp 22) (.tmp 27) (.const (.bool false)), 4, "", #[], none⟩ hS ?_ ?_; rotate_left; focus (intro w; go_simp; try with_reducible rfl))
   try simp only [pna, pnb, pnc, pnd, pne]
   (refine hP 15 ?_ ⟨some 4, .assign (.tmp 28), 4, "", #[], none⟩ hS ?_ ?_; rotate_left; focus (intro w; go_simp; try with_reducible rfl))
   try simp only [pna, pnb, pnc, pnd, pne]
   refine wpAnyH_done (by kernel_rfl) ?_ _
   have hbZ := hb0.trans (hS.mono hb0.size)
   obtain ⟨b1, b2, b3⟩ := id (B0.keep hS)
   clear hcn hli hzl B0 hb0 hS
   go_wp2_with fail
   go_ret
   exact ⟨rfl, hbZ⟩
 ·have d1 : decide (0 < a1) = false := by simpa using h1
  rw [if_neg h1]
  clear h1 hcn B0
  by_cases h2 : K.length = 0
  ·have e1 : decide (K = []) = true := by simpa using h2
   have e2 : ((K.length : Int) == 0) = true := by simpa using h2
   have e3 : decide ((K.length : Int) = 0) = true := by simpa using h2
   rw [e1, Bool.true_and]
   clear e1
   rw [h2] at b1 hb0 e2 e3 ⊢
   go_enter Tryz.func74, Tryz.ntmps74
   cases x1
   ·go_wp2_with fail
    refine (q1 _).mono ?_
    rintro e w1 ⟨rfl, rfl⟩
    go_wp2_with fail
    go_ret
    exact ⟨rfl, hb0⟩
   ·cases x2
    ·go_wp2_with fail
     refine (q1 _).mono ?_
     rintro e w1 ⟨rfl, rfl⟩
     go_wp2_with fail
     refine (q2 _).mono ?_
     rintro e w1 ⟨rfl, rfl⟩
     go_wp2_with fail
     go_ret
     exact ⟨rfl, hb0⟩
    ·cases x3
     ·go_wp2_with fail
      refine (q1 _).mono ?_
      rintro e w1 ⟨rfl, rfl⟩
      go_wp2_with fail
      refine (q2 _).mono ?_
      rintro e w1 ⟨rfl, rfl⟩
      go_wp2_with fail
      refine (q3 _).mono ?_
      rintro e w1 ⟨rfl, rfl⟩
      go_wp2_with fail
      go_ret
      exact ⟨rfl, hb0⟩
     ·cases x4
      ·go_wp2_with fail
       refine (q1 _).mono ?_
       rintro e w1 ⟨rfl, rfl⟩
       go_wp2_with fail
       refine (q2 _).mono ?_
       rintro e w1 ⟨rfl, rfl⟩
       go_wp2_with fail
       refine (q3 _).mono ?_
       rintro e w1 ⟨rfl, rfl⟩
       go_wp2_with fail
       refine (q4 _).mono ?_
       rintro e w1 ⟨rfl, rfl⟩
       go_wp2_with fail
       go_ret
       exact ⟨rfl, hb0⟩
      ·go_wp2_with fail
       refine (q1 _).mono ?_
       rintro e w1 ⟨rfl, rfl⟩
       go_wp2_with fail
       refine (q2 _).mono ?_
       rintro e w1 ⟨rfl, rfl⟩
       go_wp2_with fail
       refine (q3 _).mono ?_
       rintro e w1 ⟨rfl, rfl⟩
       go_wp2_with fail
       refine (q4 _).mono ?_
       rintro e w1 ⟨rfl, rfl⟩
       go_wp2_with fail
       refine (q5 _).mono ?_
       rintro e w1 ⟨rfl, rfl⟩
       go_wp2_with fail
       go_ret
       exact ⟨rfl, hb0⟩
  ·have e1 : decide (K = []) = false := by simpa using h2
   have e2 : ((K.length : Int) == 0) = false := by simpa using h2
   have e3 : decide ((K.length : Int) = 0) = false := by simpa using h2
   have e4 : decide (K.length = 0) = false := by simpa using h2
   rw [e1, Bool.false_and]
   clear e1 h2
   go_enter Tryz.func74, Tryz.ntmps74
   go_wp2_with fail
   go_ret
   exact ⟨rfl, hb0⟩
def codeH (b : Bool) : Int := if b then 0 else 190
theorem hd_check (a1 a2 a3 : Int) (lb : Bool) (pa st rc tx me ne : Bs) (K : List Bs) (sk : Value) (w : World) (hk : SS w sk K) :
  Calls Tryz.prog 37 #[.agg #[.int .i64 a1, .int .i64 a2, .int .i64 a3, .bool lb, .string ⟨pa.toArray⟩, .string ⟨st.toArray⟩, .string ⟨rc.toArray⟩, .string ⟨tx.toArray⟩, .string ⟨me.toArray⟩, .string ⟨ne.toArray⟩, sk]] w fun e w' => e = .returned (.int .i64 (codeH (fineH ⟨a1, a2, a3, lb, pa, st, rc, tx, me, ne, K⟩))) ∧ Below w.heap.size w w' := by
 have hb0 : Below w.heap.size w (w.alloc (.cells #[.int .i64 a1, .int .i64 a2, .int .i64 a3, .bool lb, .string ⟨pa.toArray⟩, .string ⟨st.toArray⟩, .string ⟨rc.toArray⟩, .string ⟨tx.toArray⟩, .string ⟨me.toArray⟩, .string ⟨ne.toArray⟩, sk] 48)) := Below.allocS (Below.refl _ _) _
 have B0 : Blk (w.alloc (.cells #[.int .i64 a1, .int .i64 a2, .int .i64 a3, .bool lb, .string ⟨pa.toArray⟩, .string ⟨st.toArray⟩, .string ⟨rc.toArray⟩, .string ⟨tx.toArray⟩, .string ⟨me.toArray⟩, .string ⟨ne.toArray⟩, sk] 48)) w.heap.size #[.int .i64 a1, .int .i64 a2, .int .i64 a3, .bool lb, .string ⟨pa.toArray⟩, .string ⟨st.toArray⟩, .string ⟨rc.toArray⟩, .string ⟨tx.toArray⟩, .string ⟨me.toArray⟩, .string ⟨ne.toArray⟩, sk] := Blk.new _ _ _
 have q1 := fun W => hd_numbers a1 a2 a3 lb pa st rc tx me ne sk W
 have q2 := fun W => hd_first a1 a2 a3 lb pa st rc tx me ne K sk W
 have q3 := fun W (hb : Below w.heap.size w W) => hd_sums a1 a2 a3 lb pa st rc tx me ne K sk W (hk.keep hb)
 have hF : fineH ⟨a1, a2, a3, lb, pa, st, rc, tx, me, ne, K⟩ = ((inH a1 1048576 && inH a2 1048576 && inH a3 1048576) && firstH ⟨a1, a2, a3, lb, pa, st, rc, tx, me, ne, K⟩ && sumsH ⟨a1, a2, a3, lb, pa, st, rc, tx, me, ne, K⟩ && (lb || decide (ne = me))) := rfl
 rw [hF]
 clear hF hk
 generalize (inH a1 1048576 && inH a2 1048576 && inH a3 1048576) = x1 at *
 generalize firstH ⟨a1, a2, a3, lb, pa, st, rc, tx, me, ne, K⟩ = x2 at *
 generalize sumsH ⟨a1, a2, a3, lb, pa, st, rc, tx, me, ne, K⟩ = x3 at *
 generalize hr : codeH (x1 && x2 && x3 && (lb || decide (ne = me))) = r
 have HR := Lib.hid hr
 clear hr
 obtain ⟨b1, b2, b3⟩ := id B0
 go_enter Tryz.func37, Tryz.ntmps37
 go_wp2_with fail
 refine (q1 _).mono ?_
 rintro e w1 ⟨rfl, hb⟩
 have hb1 := hb0.trans (hb.mono hb0.size)
 have B1 := B0.keep hb
 clear q1 hb b1 b2 b3 B0 hb0
 obtain ⟨b1, b2, b3⟩ := id B1
 cases x1
 ·go_wp2_with fail
  go_ret
  exact ⟨by rw [← HR.out]; rfl, hb1⟩
 go_wp2_with fail
 refine (q2 _).mono ?_
 rintro e w2 ⟨rfl, hb⟩
 have hb2 := hb1.trans (hb.mono hb1.size)
 have B2 := B1.keep hb
 clear q2 hb b1 b2 b3 B1 hb1
 obtain ⟨b1, b2, b3⟩ := id B2
 cases x2
 ·go_wp2_with fail
  go_ret
  exact ⟨by rw [← HR.out]; rfl, hb2⟩
 go_wp2_with fail
 refine (q3 _ hb2).mono ?_
 rintro e w3 ⟨rfl, hb⟩
 have hb3 := hb2.trans (hb.mono hb2.size)
 have B3 := B2.keep hb
 clear q3 hb b1 b2 b3 B2 hb2
 obtain ⟨b1, b2, b3⟩ := id B3
 cases x3
 ·go_wp2_with fail
  go_ret
  exact ⟨by rw [← HR.out]; rfl, hb3⟩
 cases lb
 ·by_cases h : ne = me
  ·subst h
   go_wp2_with fail
   go_ret
   exact ⟨by rw [← HR.out]; simp [codeH], hb3⟩
  ·have e1 : decide (ne = me) = false := by simpa using h
   have e2 : (ne == me) = false := by simpa using h
   have e3 : (ne != me) = true := by simpa using h
   have HE := Lib.hid e1
   clear h
   go_wp2_with fail
   go_ret
   exact ⟨by rw [← HR.out, HE.out]; rfl, hb3⟩
 ·go_wp2_with fail
  go_ret
  exact ⟨by rw [← HR.out]; rfl, hb3⟩
end Go.Proofs.YthkpmlfaddlieaaGreatDoor
