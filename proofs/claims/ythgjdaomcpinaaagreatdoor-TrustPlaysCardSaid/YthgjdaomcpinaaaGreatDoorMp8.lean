/- IntV, Ints, Links, Shelf6, Flag. -/
import Derived.WalkMore
import Derived.ScopeJumps
import Derived.Test.YthgjdaomcpinaaaGreatDoorProg
import Derived.Shelf.SlicesE.IndexFunc
import Derived.Test.YthgjdaomcpinaaaGreatDoorMp7
set_option linter.unnecessarySimpa false
set_option linter.unusedSimpArgs false
set_option linter.unusedVariables false
set_option maxRecDepth 100000
set_option maxHeartbeats 32000000
namespace Go.Proofs.YthgjdaomcpinaaaGreatDoor
open Go.ChangeShapes Go.WideShapes Go.ChangeAt Go.RowKit Pl
def ISrc (w : World) (g o : Nat) (l : List Int) : Prop := ∀ i, i < l.length → w.cell? ⟨g, o + i, none⟩ = some (.int .i64 (l.getD i 0))
def IS (w : World) (v : Value) (l : List Int) : Prop :=
 ∃ a cap, v = .slice a l.length cap ∧ l.length ≤ cap ∧ cap ≤ maxLen ∧ (l ≠ [] → ∃ g off, a = some ⟨g, off, none⟩ ∧ g < w.heap.size ∧ ISrc w g off l)
theorem IS.keep {W w : World} {v : Value} {l : List Int} (h : IS W v l) (hb : Below W.heap.size W w) : IS w v l := by
 obtain ⟨a, cap, h1, h2, h3, h4⟩ := h
 refine ⟨a, cap, h1, h2, h3, fun hl => ?_⟩
 obtain ⟨g, off, e, hg, hc⟩ := h4 hl
 exact ⟨g, off, e, Nat.lt_of_lt_of_le hg hb.size, fun i hi => (hb.cell (p := ⟨g, off + i, none⟩) hg).trans (hc i hi)⟩
theorem IS.form {w : World} {v : Value} {l : List Int} (h : IS w v l) : ∃ a c, v = .slice a l.length c := by
 obtain ⟨a, cap, h1, _⟩ := h
 exact ⟨a, cap, h1⟩
theorem IS.small {w : World} {v : Value} {l : List Int} (h : IS w v l) : l.length ≤ 9223372036854775807 := by
 obtain ⟨a, cap, h1, h2, h3, _⟩ := h
 unfold maxLen at h3; omega
theorem IS.at' {w : World} {a : Option Addr} {c : Nat} {l : List Int} (h : IS w (.slice a l.length c) l) (i : Nat) (hi : i < l.length) :
  ∃ g off, a = some ⟨g, off, none⟩ ∧ g < w.heap.size ∧ w.cell? ⟨g, off + i, none⟩ = some (.int .i64 (l.getD i 0)) := by
 obtain ⟨a', cap, h1, _, _, h5⟩ := h
 injection h1 with h1 _ _
 obtain ⟨g, off, e, hg, hc⟩ := h5 (by intro e; rw [e] at hi; simp at hi)
 exact ⟨g, off, h1.trans e, hg, hc i hi⟩
end Go.Proofs.YthgjdaomcpinaaaGreatDoor
namespace Go.Proofs.YthgjdaomcpinaaaGreatDoor
open Go.RowKit
theorem infoZ : (Tryz.prog.info? 3).map (fun i => (i.zero, i.size, i.bytes)) = some (some (.int .i64 0), 1, 8) := by kernel_rfl
def zv (l : List Int) : List Value := l.map fun c => Value.int .i64 c
def ZRow (w : World) (base : Nat) (v : Value) (l : List Int) : Prop := w.ownsRow base 3 1 v l.length (zv l)
theorem zv_len (l : List Int) : (zv l).length = l.length := by simp [zv]
theorem ZRow.nil (w : World) (base : Nat) : ZRow w base (.slice none 0 0) [] := ⟨rfl, .inl ⟨rfl, rfl⟩⟩
theorem ZRow.cells {w : World} {base : Nat} {v : Value} {l : List Int} (h : ZRow w base v l) :
  (v = .slice none 0 0 ∧ l = []) ∨ ∃ g cap, v = .slice (some ⟨g, 0, none⟩) l.length cap ∧ base ≤ g ∧ g < w.heap.size ∧ l.length ≤ cap ∧ cap ≤ maxLen ∧ (∀ i, i < l.length → w.cell? ⟨g, i, none⟩ = some (.int .i64 (l.getD i 0))) ∧ ∀ o, w.frozen? ⟨g, o, none⟩ = false := by
 rcases h.2 with ⟨h1, h2⟩ | ⟨g, cap, cur, hv, hb, hg, hn, hm, hc, ht⟩
 ·exact .inl ⟨h1, List.length_eq_zero_iff.1 h2⟩
 ·refine .inr ⟨g, cap, hv, hb, ?_, hn, hm, fun i hi => ?_, fun o => ?_⟩
  ·rcases Nat.lt_or_ge g w.heap.size with hlt | hge
   ·exact hlt
   ·rw [Array.getElem?_eq_none hge] at hg; cases hg
  ·have h1 : cur[i]? = (cur.toList.take (l.length * 1))[i]? := by
    rw [List.getElem?_take, if_pos (by omega)]; simp
   have h2 : w.cell? ⟨g, i, none⟩ = cur[i]? := by simp [World.cell?, hg]
   rw [h2, h1, ht]
   simp [zv, List.getD, List.getElem?_eq_getElem hi]
  ·simp [World.frozen?, hg]
theorem ZRow.form {w : World} {base : Nat} {v : Value} {l : List Int} (h : ZRow w base v l) : ∃ (a : Option Addr) (cap : Nat), v = .slice a l.length cap := by
 rcases h.cells with ⟨rfl, rfl⟩ | ⟨g, cap, rfl, _⟩
 ·exact ⟨none, 0, rfl⟩
 ·exact ⟨_, cap, rfl⟩
theorem ZRow.own {w : World} {base : Nat} {v : Value} {l : List Int} (h : ZRow w base v l) : ∀ k, v.ownBlock = some k → base ≤ k := by
 intro k hk
 rcases h.cells with ⟨rfl, _⟩ | ⟨g, cap, rfl, hb, _⟩
 ·cases hk
 ·cases hk; exact hb
theorem ZRow.kept {w w' : World} {base : Nat} {v : Value} {l : List Int} (h : ZRow w base v l) (hb : ∀ k, v.ownBlock = some k → w'.heap[k]? = w.heap[k]?) : ZRow w' base v l := by
 refine ⟨h.1, h.2.imp id ?_⟩
 rintro ⟨g, cap, cur, hv, h1, h2, h3⟩
 subst hv
 exact ⟨g, cap, cur, rfl, h1, (hb g rfl).trans h2, h3⟩
theorem ZRow.alloc {w : World} {base : Nat} {v : Value} {l : List Int} (h : ZRow w base v l) (o : Obj) : ZRow (w.alloc o) base v l := by
 refine h.kept (fun k hk => Below.heap_alloc _ _ _ ?_)
 rcases h.cells with ⟨rfl, rfl⟩ | ⟨g, cap, rfl, _, hlt, _⟩
 ·cases hk
 ·cases hk; exact hlt
theorem zsrc1 (w : World) (x : Int) (t : TypeId) : ISrc (w.alloc (.cells #[.int .i64 x] t)) w.heap.size 0 [x] := by
 intro i hi
 have : i = 0 := by simp at hi; omega
 subst this
 simp
theorem zsrc_news {w : World} {g o : Nat} {l : List Int} (h : ISrc w g o l) : ∀ j u, (zv l)[j]? = some u → w.cell? ((⟨g, o, none⟩ : Addr).add j) = some u := by
 intro j u hj
 have hjl : j < l.length := by
  rcases Nat.lt_or_ge j l.length with hlt | hge
  ·exact hlt
  ·rw [List.getElem?_eq_none (by rw [zv_len]; exact hge)] at hj; cases hj
 have hadd : (⟨g, o, none⟩ : Addr).add j = ⟨g, o + j, none⟩ := by unfold Addr.add; split <;> simp_all
 rw [hadd, h j hjl]
 simp [zv, List.getElem?_eq_getElem hjl] at hj
 simp [List.getD, List.getElem?_eq_getElem hjl, hj]
theorem zone (l : List Int) : ∀ u ∈ zv l, u.oneCell' = true := by
 intro u hu
 simp [zv] at hu
 obtain ⟨c, _, rfl⟩ := hu
 rfl
theorem ZRow.is {w : World} {base : Nat} {v : Value} {l : List Int} (h : ZRow w base v l) : IS w v l := by
 rcases h.cells with ⟨rfl, rfl⟩ | ⟨g, cap, h1, h2, h3, h4, h5, h6, h7⟩
 ·exact ⟨none, 0, rfl, Nat.le_refl _, by unfold maxLen; omega, fun h => absurd rfl h⟩
 ·exact ⟨_, cap, h1, h4, h5, fun _ => ⟨g, 0, rfl, h3, fun i hi => by rw [Nat.zero_add]; exact h6 i hi⟩⟩
theorem ZRow.keep {W w : World} {b : Nat} {v : Value} {l : List Int} (h : ZRow W b v l) (hb : Below W.heap.size W w) : ZRow w b v l := by
 refine h.kept (fun k hk => hb.block k ?_)
 rcases h.cells with ⟨rfl, _⟩ | ⟨g, cap, rfl, _, hg, _⟩
 ·cases hk
 ·cases hk; exact hg
theorem ZRow.low {w : World} {b c : Nat} {v : Value} {l : List Int} (h : ZRow w b v l) (hc : c ≤ b) : ZRow w c v l := by
 refine ⟨h.1, h.2.imp id ?_⟩
 rintro ⟨g, cap, cur, hv, h1, h2⟩
 exact ⟨g, cap, cur, hv, Nat.le_trans hc h1, h2⟩
section
variable {ops : Array Oper} {o : Oper} {a : Act} {w : World} {Q : Exit → Act → World → Prop}
theorem wp_appZ {K : Act → World → Prop} (s x : Operand)
  (ho : o.op = .call { callee := .builtin .append, args := #[s, x], argTypes := #[51, 51] })
  (base : Nat) (v : Value) (l : List Int) (hs : a.eval s = v) (hown : ZRow w base v l)
  (g off m c : Nat) (news : List Int) (hx : a.eval x = .slice (some ⟨g, off, none⟩) m c) (hm : news.length = m) (hsrc : ISrc w g off news)
  (hlen : l.length + m ≤ 8796093022208) (hbase : base ≤ w.heap.size)
  (h : ∀ v' w', ZRow w' base v' (l ++ news) → Below base w w' → K (a.put o.dst v') w') : o.wp Tryz.prog a w K Q := by
 obtain ⟨i0, hi, hz0, hz1, hz2⟩ := info_parts infoZ
 refine wp_append_own w s x 51 ho base 3 i0 (.int .i64 0) 1 8 Tryz.underlying51 hi hz0 hz1 hz2 rfl (by decide) v l.length (zv l) hs hown ⟨g, off, none⟩ m c (zv news) hx (by rw [zv_len, hm]; omega) (zsrc_news hsrc) (zone news)
  (by unfold maxLen; omega) (by omega) hbase (fun v' w' h2 h3 _ => h v' w' ?_ (grown_below h3 hbase hown.own))
 unfold ZRow
 rw [List.length_append, hm, show zv (l ++ news) = zv l ++ zv news from by simp [zv]]
 exact h2
theorem wpList_appZ {rest : List Oper} (hgd : o.guard = none) (s x : Operand)
  (ho : o.op = .call { callee := .builtin .append, args := #[s, x], argTypes := #[51, 51] })
  (base : Nat) (v : Value) (l : List Int) (hs : a.eval s = v) (hown : ZRow w base v l)
  (g off m c : Nat) (news : List Int) (hx : a.eval x = .slice (some ⟨g, off, none⟩) m c) (hm : news.length = m) (hsrc : ISrc w g off news)
  (hlen : l.length + m ≤ 8796093022208) (hbase : base ≤ w.heap.size)
  (h : ∀ v' w', ZRow w' base v' (l ++ news) → Below base w w' → wpList Tryz.prog ops Q rest (a.put o.dst v') w') : wpList Tryz.prog ops Q (o :: rest) a w :=
 wpList_plain hgd fun _ hK => wp_appZ s x ho base v l hs hown g off m c news hx hm hsrc hlen hbase fun v' w' h2 h3 => hK _ _ (h v' w' h2 h3)
end
end Go.Proofs.YthgjdaomcpinaaaGreatDoor
namespace Go.Proofs.YthgjdaomcpinaaaGreatDoor
open Go.RowKit Pl
theorem links_any (h : Int) (w : World) :
  Calls Tryz.prog 106 #[.int .i64 h] w fun e w' => ∃ v, e = .returned v ∧ ZRow w' w.heap.size v (linksF h) ∧ Below w.heap.size w w' := by
 by_cases h1 : h < 1
 ·have d1 : decide (h < 1) = true := by simpa using h1
  rw [linksF_out (.inl h1)]
  clear h1
  go_enter Tryz.func106, Tryz.ntmps106
  go_wp2_with fail
  try go_step3
  try go_wp2_with fail
  rw [Exit.noGoto_ret]
  go_ret
  exact ⟨_, rfl, ZRow.nil _ _, Below.refl _ _⟩
 ·have d1 : decide (h < 1) = false := by simpa using h1
  by_cases h2 : 1048576 < h
  ·have d2 : decide (1048576 < h) = true := by simpa using h2
   rw [linksF_out (.inr h2)]
   clear h1 h2
   go_enter Tryz.func106, Tryz.ntmps106
   go_wp2_with fail
   try go_step3
   try go_wp2_with fail
   rw [Exit.noGoto_ret]
   go_ret
   exact ⟨_, rfl, ZRow.nil _ _, Below.refl _ _⟩
  ·have d2 : decide (1048576 < h) = false := by simpa using h2
   obtain ⟨n, rfl⟩ : ∃ n : Nat, h = n := ⟨h.toNat, by omega⟩
   rw [linksF_in (by omega) (by omega)]
   rw [show ((n : Int)).toNat = n from rfl]
   go_enter Tryz.func106, Tryz.ntmps106
   go_wp2_with fail
   refine wp_scope_jumps 0 (fun a' w' => ∃ (k : Nat) (v u5 u6 u7 u8 u9 u10 u11 u12 u13 u14 u15 u16 u17 u18 u19 u20 u21 u22 u23 : Value), a' = { tmps := #[.int .i64 n, undef, .slice none 0 0, v, .int .i64 ((2 ^ (k + 1) : Nat)), u5, u6, u7, u8, u9, u10, u11, u12, u13, u14, u15, u16, u17, u18, u19, u20, u21, u22, u23], defers := [] } ∧ k ≤ 20 ∧ ZRow w' w.heap.size v (linksTo n k) ∧ Below w.heap.size w w') (fun a' _ => 2000000 - (intOf (a'.tmps.getD 4 undef)).toNat) rfl ?_ ?_
   ·go_wp2_with fail
    go_step3
    have hr := ZRow.nil w w.heap.size
    by_cases hm : n % 2 = 0
    ·have hn2 : 2 ≤ n := by omega
     have e1 : (n : Int).tmod 2 = 0 := by rw [Int.tmod_eq_emod_of_nonneg (by omega)]; omega
     have w1 : IntKind.i64.wrap ((n : Int) - 2) = (n : Int) - 2 := by rw [IntKind.wrap_i64]; omega
     have HL1 : Hid (linksTo n (0 + 1) = [(n : Int) - 2]) := Lib.hid (linksTo_yes (k := 0) hm)
     clear hm
     go_wp2_with (first
      | (at_builtin; refine wpList_appZ rfl (.tmp 15) (.tmp 19) rfl w.heap.size _ [] rfl (hr.alloc _) _ 0 1 1 [(n : Int) - 2] rfl rfl (zsrc1 _ _ _) (by simp) (by simp) ?_; rintro v2 w2' hS2 hb2)
      | fail)
     go_step3
     have hb3 : Below w.heap.size w w2' := (Below.allocS (Below.refl _ _) _).trans hb2
     exact ⟨rfl, 0 + 1, v2, _, _, _, _, _, _, _, _, _, _, _, _, _, _, _, _, _, _, _, rfl, by omega, by rw [HL1.out]; exact hS2, hb3⟩
    ·have e1 : (n : Int).tmod 2 ≠ 0 := by rw [Int.tmod_eq_emod_of_nonneg (by omega)]; omega
     have HE : Hid (linksTo n 20 = []) := Lib.hid (links_stop (k := 0) hm 20)
     go_wp2_with fail
     simp only [Exit.jump]
     go_ret
     exact ⟨_, rfl, by rw [HE.out]; exact ZRow.nil _ _, Below.refl _ _⟩
   ·rintro a' w' ⟨k, v, u5, u6, u7, u8, u9, u10, u11, u12, u13, u14, u15, u16, u17, u18, u19, u20, u21, u22, u23, rfl, hk, hr, hb⟩
    have hp0 := Nat.pow_pos (n := k + 1) (show 0 < 2 by omega)
    have hpw : (2 : Nat) ^ (k + 1 + 1) = 2 ^ (k + 1) * 2 := Nat.pow_succ _ _
    have hp21 : (2 : Nat) ^ (k + 1) ≤ 2 ^ 21 := Nat.pow_le_pow_right (by omega) (by omega)
    have HLY := Lib.hid (fun h => linksTo_yes (h := n) (k := k) h)
    have HST := Lib.hid (fun (h : n % 2 ^ (k + 1) ≠ 0) => links_stop h (20 - k))
    have HLL := Lib.hid (links_len n k)
    have HK : Hid (n % 2 ^ (k + 1) = 0 → k + 1 ≤ 20) := Lib.hid (fun h0 => by
     rcases Nat.lt_or_ge k 20 with h | h
     ·exact h
     ·have h3 : (2 : Nat) ^ 21 ≤ 2 ^ (k + 1) := Nat.pow_le_pow_right (by omega) (by omega)
      have h4 := Nat.le_of_dvd (by omega) (Nat.dvd_of_mod_eq_zero h0)
      omega)
    obtain ⟨va, vc, rfl⟩ := hr.form
    have HR := Lib.hid hr
    clear hr
    generalize hsp : (2 : Nat) ^ (k + 1) = s at *
    generalize hs2 : (2 : Nat) ^ (k + 1 + 1) = s2 at *
    have HS2 := Lib.hid hs2
    have HSP := Lib.hid hsp
    clear hs2 hsp
    have e1 : (n : Int).tmod (s : Int) = ((n % s : Nat) : Int) := by rw [Int.ofNat_tmod]
    have e0 : (s : Int) ≠ 0 := by omega
    by_cases hm : n % s = 0
    ·have hsn : s ≤ n := Nat.le_of_dvd (by omega) (Nat.dvd_of_mod_eq_zero hm)
     rw [hm] at e1
     have HK2 := Lib.hid (HK.out hm)
     have HL2 := Lib.hid (HLY.out hm)
     have w1 : IntKind.i64.wrap ((n : Int) - (s : Int)) = (n : Int) - (s : Int) := by rw [IntKind.wrap_i64]; omega
     have w2 : IntKind.i64.wrap ((s : Int) * 2) = (s : Int) * 2 := by rw [IntKind.wrap_i64]; omega
     clear HK HLY HST hm
     generalize linksTo n k = L at *
     go_wp2_with (first
      | (at_builtin; refine wpList_appZ rfl (.tmp 15) (.tmp 19) rfl w.heap.size _ L rfl (HR.out.alloc _) _ 0 1 1 [(n : Int) - (s : Int)] rfl rfl (zsrc1 _ _ _) (by have := HLL.out; omega) (by have := hb.size; simp; omega) ?_; rintro v2 w2' hS2 hb2)
      | fail)
     go_step3
     have hb3 : Below w.heap.size w w2' := (Below.allocS hb _).trans hb2
     refine ⟨rfl, ⟨k + 1, v2, _, _, _, _, _, _, _, _, _, _, _, _, _, _, _, _, _, _, _, by rw [HS2.out, hpw]; rfl, HK2.out, by rw [HL2.out]; exact hS2, hb3⟩, ?_⟩
     simp [intOf]
     omega
    ·have e2 : ((n % s : Nat) : Int) ≠ 0 := by omega
     have HE : Hid (linksTo n 20 = linksTo n k) := Lib.hid (by rw [← HST.out hm, show k + (20 - k) = 20 from by omega])
     go_wp2_with fail
     simp only [Exit.jump]
     go_ret
     exact ⟨_, rfl, by rw [HE.out]; exact HR.out, hb⟩
end Go.Proofs.YthgjdaomcpinaaaGreatDoor
namespace Go.Proofs.YthgjdaomcpinaaaGreatDoor
open Go.Shelf
def laysCont_ren : Go.Shelf.Ren := ⟨fun | 8 => 150 | 6 => 171 | n => n, fun | 22 => 22 | 23 => 9 | 25 => 123 | 4 => 4 | 3 => 3 | 0 => 0 | n => n, fun | n => n⟩
theorem laysCont : Go.Proofs.SlLaysH.n8 Tryz.prog laysCont_ren := {
 mixed := by kernel_rfl
 f6 := ⟨Tryz.f171.name, by decide, Tryz.func171.trans (congrArg some (by kernel_rfl))⟩
 f8 := ⟨Tryz.f150.name, by decide, Tryz.func150.trans (congrArg some (by kernel_rfl))⟩
 t0 := Tryz.underlying0
 a0 := Tryz.isAgg0
 z0 := Tryz.sizeOf0
 v0 := Tryz.zeroValue0
 t3 := Tryz.underlying3
 a3 := Tryz.isAgg3
 z3 := Tryz.sizeOf3
 v3 := Tryz.zeroValue3
 t4 := Tryz.underlying4
 a4 := Tryz.isAgg4
 z4 := Tryz.sizeOf4
 v4 := Tryz.zeroValue4
 t22 := Tryz.underlying22
 a22 := Tryz.isAgg22
 z22 := Tryz.sizeOf22
 v22 := Tryz.zeroValue22
 a23 := Tryz.isAgg9
 z23 := Tryz.sizeOf9
 t25 := Tryz.underlying123
 a25 := Tryz.isAgg123
 z25 := Tryz.sizeOf123
 v25 := Tryz.zeroValue123 }
end Go.Proofs.YthgjdaomcpinaaaGreatDoor
namespace Go.Proofs.YthgjdaomcpinaaaGreatDoor
open Go.RowKit Pl
theorem cflag_any (b : Bool) (w : World) : Calls Tryz.prog 97 #[.bool b] w fun e w' => e = .returned (.string ⟨List.toArray (flagB b)⟩) ∧ Below w.heap.size w w' := by
 cases b
 ·go_enter Tryz.func97, Tryz.ntmps97
  go_wp2_with fail
  all_goals (go_ret; exact ⟨rfl, Below.refl _ _⟩)
 ·go_enter Tryz.func97, Tryz.ntmps97
  go_wp2_with fail
  all_goals (go_ret; exact ⟨rfl, Below.refl _ _⟩)
theorem bytes1_yes (l : Bs) (a : Nat) (k : UInt8) (r : Bs) (p : Nat) (w : World) (hl : l.length ≤ 9223372036854775807) (hs : l.drop a = k :: r) (B : Blk w p #[.string ⟨List.toArray l⟩, .int .i64 a, .int .i64 0]) :
  Calls Tryz.prog 105 #[.pointer (some ⟨p, 0, none⟩), .int .i64 1] w fun e w' => e = .returned (.string ⟨List.toArray ([k])⟩) ∧ Blk w' p #[.string ⟨List.toArray l⟩, .int .i64 ((a + 1 : Nat)), .int .i64 0] ∧ Mod [p] w w' := by
 have hlen : a + 1 + r.length = l.length := by
  have := congrArg List.length hs
  simp at this
  omega
 have htk : (l.drop a).take 1 = [k] := by rw [hs]; rfl
 have ht := take_yes l a 1 0 p w hl (by omega) B
 rw [htk] at ht
 obtain ⟨b1, b2, b3⟩ := id B
 clear hs htk
 go_enter Tryz.func105, Tryz.ntmps105
 go_wp2_with fail
 refine ht.mono ?_
 rintro e w1 ⟨rfl, B1, m1⟩
 clear b1 b2 b3
 go_wp2_with fail
 go_ret
 exact ⟨rfl, B1, m1⟩
theorem bytes1_no (l : Bs) (a : Nat) (p : Nat) (w : World) (hl : l.length ≤ 9223372036854775807) (ha : l.length ≤ a) (ha2 : a ≤ l.length) (B : Blk w p #[.string ⟨List.toArray l⟩, .int .i64 a, .int .i64 0]) :
  Calls Tryz.prog 105 #[.pointer (some ⟨p, 0, none⟩), .int .i64 1] w fun e w' => e = .returned (.string ⟨List.toArray []⟩) ∧ Blk w' p #[.string ⟨List.toArray l⟩, .int .i64 a, .int .i64 20] ∧ Mod [p] w w' := by
 have HT := Lib.hid (take_no l a 1 0 p w hl ha2 (by omega) B)
 clear ha ha2
 obtain ⟨b1, b2, b3⟩ := id B
 go_enter Tryz.func105, Tryz.ntmps105
 go_wp2_with fail
 refine (HT.out).mono ?_
 rintro e w1 ⟨rfl, B1, m1⟩
 clear b1 b2 b3
 obtain ⟨b1, b2, b3⟩ := id B1
 go_wp2_with fail
 refine (refused_yes l a a 20 p _ B1).mono ?_
 rintro e w2 ⟨rfl, B2, m2⟩
 clear b1 b2 b3
 go_wp2_with fail
 go_ret
 exact ⟨rfl, B2, m1.trans m2⟩
theorem bytes1_bad (l : Bs) (a : Nat) (c : Int) (hc : c ≠ 0) (p : Nat) (w : World) (B : Blk w p #[.string ⟨List.toArray l⟩, .int .i64 a, .int .i64 c]) :
  Calls Tryz.prog 105 #[.pointer (some ⟨p, 0, none⟩), .int .i64 1] w fun e w' => e = .returned (.string ⟨List.toArray []⟩) ∧ w' = w := by
 obtain ⟨b1, b2, b3⟩ := id B
 have hc1 : (c == 0) = false := by simpa using hc
 have hc2 : (c != 0) = true := by simpa using hc
 go_enter Tryz.func105, Tryz.ntmps105
 go_wp2_with fail
 go_ret
 exact ⟨rfl, rfl⟩
theorem rflag_any (s : Bs) (c : Int) (p : Nat) (w : World) (R : Rdr w p s c) :
  Calls Tryz.prog 104 #[.pointer (some ⟨p, 0, none⟩)] w fun e w' => e = .returned (.bool (mFlag s c).1) ∧ Rdr w' p (mFlag s c).2.1 (mFlag s c).2.2 ∧ Mod [p] w w' := by
 obtain ⟨l, a, h1, h2, rfl, B⟩ := id R
 obtain ⟨b1, b2, b3⟩ := id B
 by_cases hc : c = 0
 ·subst hc
  cases hs : l.drop a with
  | nil =>
   have ha : a = l.length := by
    have := congrArg List.length hs
    simp at this
    omega
   rw [show mFlag [] 0 = (false, [], 20) from rfl]
   have hby := bytes1_no l a p w h1 (by omega) (by omega) B
   have HS := Lib.hid hs
   clear hs ha
   go_enter Tryz.func104, Tryz.ntmps104
   go_wp2_with fail
   refine hby.mono ?_
   rintro e w1 ⟨rfl, B1, m1⟩
   clear b1 b2 b3
   obtain ⟨b1, b2, b3⟩ := id B1
   go_wp2_with fail
   go_ret
   exact ⟨rfl, ⟨l, a, h1, h2, HS.out, B1⟩, m1⟩
  | cons k r =>
   have hby := bytes1_yes l a k r p w h1 hs B
   have hlen : a + 1 + r.length = l.length := by
    have := congrArg List.length hs
    simp at this
    omega
   have hd1 : l.drop (a + 1) = r := by rw [← List.drop_drop, hs]; rfl
   have HS := Lib.hid hs
   have HD := Lib.hid hd1
   have hk := k.toNat_lt
   clear hs hd1
   by_cases hb : 1 < k.toNat
   ·have hb' : (1 : Int) < (k.toNat : Int) := by omega
    rw [show mFlag (k :: r) 0 = (false, k :: r, 3) from by simp [mFlag, hb]]
    go_enter Tryz.func104, Tryz.ntmps104
    go_wp2_with fail
    refine hby.mono ?_
    rintro e w1 ⟨rfl, B1, m1⟩
    clear b1 b2 b3
    obtain ⟨b1, b2, b3⟩ := id B1
    go_wp2_with fail
    refine (refused_yes l (a + 1) a 3 p _ B1).mono ?_
    rintro e w2 ⟨rfl, B2, m2⟩
    clear b1 b2 b3
    go_wp2_with fail
    go_ret
    exact ⟨rfl, ⟨l, a, h1, h2, HS.out, B2⟩, m1.trans m2⟩
   ·have hb' : ¬ (1 : Int) < (k.toNat : Int) := by omega
    rw [show mFlag (k :: r) 0 = (k == 1, r, 0) from by simp [mFlag, hb]]
    have hk1 : (k == 1) = decide ((k.toNat : Int) = 1) := by
     rw [Bool.eq_iff_iff, beq_iff_eq, decide_eq_true_iff, ← UInt8.toNat_inj]
     simp
     omega
    rw [hk1]
    go_enter Tryz.func104, Tryz.ntmps104
    go_wp2_with fail
    refine hby.mono ?_
    rintro e w1 ⟨rfl, B1, m1⟩
    clear b1 b2 b3
    obtain ⟨b1, b2, b3⟩ := id B1
    go_wp2_with fail
    go_ret
    exact ⟨by rfl, ⟨l, a + 1, h1, by omega, HD.out, B1⟩, m1⟩
 ·rw [mFlag_bad _ _ hc]
  have hc2 : (c != 0) = true := by simpa using hc
  go_enter Tryz.func104, Tryz.ntmps104
  go_wp2_with fail
  refine (bytes1_bad l a c hc p _ B).mono ?_
  rintro e w1 ⟨rfl, rfl⟩
  go_wp2_with fail
  go_ret
  exact ⟨rfl, R, Mod.refl _ _⟩
end Go.Proofs.YthgjdaomcpinaaaGreatDoor
