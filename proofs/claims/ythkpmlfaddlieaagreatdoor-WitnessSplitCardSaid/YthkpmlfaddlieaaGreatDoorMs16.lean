/- Shelf, BothP, Sort, Over, CertLaw, WitP, WBig. -/
import Derived.Shelf.Slices.In.SortNone
import Derived.Shelf.Slices.In.CompactS
import Derived.Lib.SlicesCompact
import Derived.Sort.OwnSorted
import Derived.Sort.EveryDepth
import Derived.Test.YthkpmlfaddlieaaGreatDoorMs15
set_option linter.unnecessarySimpa false
set_option linter.unusedSimpArgs false
set_option linter.unusedVariables false
set_option maxRecDepth 100000
set_option maxHeartbeats 32000000
namespace Go.Proofs.YthkpmlfaddlieaaGreatDoor
open Go.Shelf
def laysSort_ren : Go.Shelf.Ren := ⟨fun | 190 => 78 | 125 => 113 | 258 => 112 | 128 => 147 | 129 => 148 | 302 => 138 | 303 => 139 | 304 => 140 | 305 => 141 | 306 => 142 | 307 => 143 | 308 => 144 | 309 => 145 | 310 => 146 | 333 => 163 | 329 => 164 | 330 => 165 | 334 => 166 | 335 => 167 | 336 => 168 | 344 => 175 | n => n, fun | 31 => 24 | 9 => 9 | 3 => 3 | 46 => 126 | 0 => 0 | 51 => 158 | 53 => 161 | 4 => 4 | 183 => 217 | 182 => 216 | 131 => 103 | 5 => 5 | 218 => 238 | 222 => 242 | 228 => 252 | 229 => 253 | n => n, fun | n => n⟩
theorem laysSort : Go.Proofs.Lays.n190 Tryz.prog laysSort_ren := {
 mixed := by kernel_rfl
 f125 := Tryz.func113.trans (congrArg some (by kernel_rfl))
 f128 := Tryz.func147.trans (congrArg some (by kernel_rfl))
 f129 := Tryz.func148.trans (congrArg some (by kernel_rfl))
 f190 := Tryz.func78.trans (congrArg some (by kernel_rfl))
 f258 := Tryz.func112.trans (congrArg some (by kernel_rfl))
 f302 := Tryz.func138.trans (congrArg some (by kernel_rfl))
 f303 := Tryz.func139.trans (congrArg some (by kernel_rfl))
 f304 := Tryz.func140.trans (congrArg some (by kernel_rfl))
 f305 := Tryz.func141.trans (congrArg some (by kernel_rfl))
 f306 := Tryz.func142.trans (congrArg some (by kernel_rfl))
 f307 := Tryz.func143.trans (congrArg some (by kernel_rfl))
 f308 := Tryz.func144.trans (congrArg some (by kernel_rfl))
 f309 := Tryz.func145.trans (congrArg some (by kernel_rfl))
 f310 := Tryz.func146.trans (congrArg some (by kernel_rfl))
 f329 := Tryz.func164.trans (congrArg some (by kernel_rfl))
 f330 := Tryz.func165.trans (congrArg some (by kernel_rfl))
 f333 := Tryz.func163.trans (congrArg some (by kernel_rfl))
 f334 := Tryz.func166.trans (congrArg some (by kernel_rfl))
 f335 := Tryz.func167.trans (congrArg some (by kernel_rfl))
 f336 := Tryz.func168.trans (congrArg some (by kernel_rfl))
 f344 := Tryz.func175.trans (congrArg some (by kernel_rfl))
 t0 := Tryz.underlying0
 a0 := Tryz.isAgg0
 z0 := Tryz.sizeOf0
 v0 := Tryz.zeroValue0
 t3 := Tryz.underlying3
 a3 := Tryz.isAgg3
 z3 := Tryz.sizeOf3
 v3 := Tryz.zeroValue3
 t4 := Tryz.underlying4
 a4 := Tryz.isAgg4
 z4 := Tryz.sizeOf4
 v4 := Tryz.zeroValue4
 t5 := Tryz.underlying5
 a5 := Tryz.isAgg5
 z5 := Tryz.sizeOf5
 v5 := Tryz.zeroValue5
 t9 := Tryz.underlying9
 a9 := Tryz.isAgg9
 z9 := Tryz.sizeOf9
 v9 := Tryz.zeroValue9
 t31 := Tryz.underlying24
 a31 := Tryz.isAgg24
 z31 := Tryz.sizeOf24
 v31 := Tryz.zeroValue24
 t46 := Tryz.underlying126
 a46 := Tryz.isAgg126
 z46 := Tryz.sizeOf126
 v46 := Tryz.zeroValue126
 t51 := Tryz.underlying158
 a51 := Tryz.isAgg158
 z51 := Tryz.sizeOf158
 v51 := Tryz.zeroValue158
 t53 := Tryz.underlying161
 a53 := Tryz.isAgg161
 z53 := Tryz.sizeOf161
 v53 := Tryz.zeroValue161
 t131 := Tryz.underlying103
 a131 := Tryz.isAgg103
 z131 := Tryz.sizeOf103
 v131 := Tryz.zeroValue103
 t182 := Tryz.underlying216
 a182 := Tryz.isAgg216
 z182 := Tryz.sizeOf216
 v182 := Tryz.zeroValue216
 t183 := Tryz.underlying217
 a183 := Tryz.isAgg217
 z183 := Tryz.sizeOf217
 v183 := Tryz.zeroValue217
 t218 := Tryz.underlying238
 a218 := Tryz.isAgg238
 z218 := Tryz.sizeOf238
 v218 := Tryz.zeroValue238
 t222 := Tryz.underlying242
 a222 := Tryz.isAgg242
 z222 := Tryz.sizeOf242
 v222 := Tryz.zeroValue242
 t228 := Tryz.underlying252
 a228 := Tryz.isAgg252
 z228 := Tryz.sizeOf252
 v228 := Tryz.zeroValue252
 t229 := Tryz.underlying253
 a229 := Tryz.isAgg253
 z229 := Tryz.sizeOf253
 v229 := Tryz.zeroValue253 }
def laysCompact_ren : Go.Shelf.Ren := ⟨fun | 194 => 79 | n => n, fun | 31 => 24 | 9 => 9 | 3 => 3 | 4 => 4 | 0 => 0 | n => n, fun | n => n⟩
theorem laysCompact : Go.Proofs.Lays.n194 Tryz.prog laysCompact_ren := {
 mixed := by kernel_rfl
 f194 := Tryz.func79.trans (congrArg some (by kernel_rfl))
 t0 := Tryz.underlying0
 a0 := Tryz.isAgg0
 z0 := Tryz.sizeOf0
 v0 := Tryz.zeroValue0
 t3 := Tryz.underlying3
 a3 := Tryz.isAgg3
 z3 := Tryz.sizeOf3
 v3 := Tryz.zeroValue3
 t4 := Tryz.underlying4
 a4 := Tryz.isAgg4
 z4 := Tryz.sizeOf4
 v4 := Tryz.zeroValue4
 t9 := Tryz.underlying9
 a9 := Tryz.isAgg9
 z9 := Tryz.sizeOf9
 v9 := Tryz.zeroValue9
 t31 := Tryz.underlying24
 a31 := Tryz.isAgg24
 z31 := Tryz.sizeOf24
 v31 := Tryz.zeroValue24 }
end Go.Proofs.YthkpmlfaddlieaaGreatDoor
namespace Go.Proofs.YthkpmlfaddlieaaGreatDoor
namespace Pl
def IsBoth (a b l : List Bs) : Prop := l.Pairwise (fun x y => x < y) ∧ ∀ x, x ∈ l ↔ x ∈ a ∧ x ∈ b
theorem upTo_mem (d : Array Bs) : ∀ m, m ≤ d.size → ∀ x, x ∈ Lib.compactUpTo d m ↔ ∃ j, j < m ∧ d[j]! = x
 | 0, _, x => by simp [Lib.compactUpTo]
 | m + 1, hm, x => by
  rw [Lib.compactUpTo_succ, List.mem_append, upTo_mem d m (by omega) x]
  constructor
  ·rintro (⟨j, hj, e⟩ | h)
   ·exact ⟨j, by omega, e⟩
   ·split at h
    ·simp at h; exact ⟨m, by omega, h.symm⟩
    ·simp at h
  ·rintro ⟨j, hj, e⟩
   rcases Nat.lt_or_eq_of_le (Nat.le_of_lt_succ hj) with h | h
   ·exact .inl ⟨j, h, e⟩
   ·subst h
    by_cases hk : Lib.keeps d j = true
    ·exact .inr (by rw [if_pos hk]; simp [e])
    ·unfold Lib.keeps at hk
     simp only [decide_eq_true_eq, not_or, ne_eq, Classical.not_not] at hk
     exact .inl ⟨j - 1, by omega, hk.2.symm.trans e⟩
theorem upTo_sorted (d : Array Bs) (hd : ∀ i j, i ≤ j → j < d.size → d[i]! ≤ d[j]!) : ∀ m, m ≤ d.size → (Lib.compactUpTo d m).Pairwise (fun x y => x < y)
 | 0, _ => by simp [Lib.compactUpTo]
 | m + 1, hm => by
  rw [Lib.compactUpTo_succ, List.pairwise_append]
  refine ⟨upTo_sorted d hd m (by omega), by split <;> simp, fun x hx y hy => ?_⟩
  split at hy
  ·rename_i hk
   simp at hy
   subst hy
   obtain ⟨j, hj, rfl⟩ := (upTo_mem d m (by omega) x).1 hx
   unfold Lib.keeps at hk
   simp only [decide_eq_true_eq] at hk
   have hne : d[m]! ≠ d[m - 1]! := by
    rcases hk with h | h
    ·omega
    ·exact h
   have h1 := hd j (m - 1) (by omega) (by omega)
   have h2 := hd (m - 1) m (by omega) (by omega)
   refine List.lt_of_le_of_lt h1 ?_
   rcases Classical.em (d[m - 1]! < d[m]!) with h | h
   ·exact h
   ·exact absurd (List.le_antisymm (List.not_lt.1 h) h2) hne
  ·simp at hy
theorem compact_sorted (zs : List Bs) (h : zs.Pairwise (fun x y => x ≤ y)) : (Lib.compact zs).Pairwise (fun x y => x < y) := by
 unfold Lib.compact
 refine upTo_sorted zs.toArray (fun i j hij hj => ?_) zs.length (by simp)
 simp at hj
 rw [getElem!_pos _ _ (by simp; omega), getElem!_pos _ _ (by simpa using hj)]
 simp only [List.getElem_toArray]
 rcases Nat.lt_or_eq_of_le hij with hlt | rfl
 ·exact List.pairwise_iff_getElem.1 h i j (by omega) hj hlt
 ·exact List.le_refl _
theorem compact_mem (zs : List Bs) (x : Bs) : x ∈ Lib.compact zs ↔ x ∈ zs := by
 unfold Lib.compact
 rw [upTo_mem zs.toArray zs.length (by simp)]
 constructor
 ·rintro ⟨j, hj, rfl⟩
  rw [getElem!_pos _ _ (by simpa using hj)]
  simp
 ·intro hx
  obtain ⟨j, hj, rfl⟩ := List.getElem_of_mem hx
  exact ⟨j, hj, by rw [getElem!_pos _ _ (by simpa using hj)]; simp⟩
def selP (a b : List Bs) : List Bs := b.filter fun x => a.contains x
def bothP (a b : List Bs) : List Bs := Lib.compact ((selP a b).mergeSort fun x y => decide (x ≤ y))
theorem bothP_is (a b : List Bs) : IsBoth a b (bothP a b) := by
 constructor
 ·refine compact_sorted _ ?_
  have h := List.pairwise_mergeSort (le := fun x y : Bs => decide (x ≤ y)) (fun x y z h k => by simp only [decide_eq_true_eq] at *; exact List.le_trans h k) (fun x y => by simp only [Bool.or_eq_true, decide_eq_true_eq]; exact List.le_total x y) (selP a b)
  exact h.imp (fun {x y} h => by simpa using h)
 ·intro x
  unfold bothP
  rw [compact_mem, (List.mergeSort_perm (selP a b) _).mem_iff]
  unfold selP
  rw [List.mem_filter]
  simp only [List.contains_iff_mem]
  exact And.comm
end Pl
end Go.Proofs.YthkpmlfaddlieaaGreatDoor
namespace Go.Proofs.YthkpmlfaddlieaaGreatDoor
open Go.RowKit Go.WideMaps Go.Maps Go.Sort Pl
theorem takeSo (l : List Bs) (i : Nat) (hi : i < l.length) : l.take (i + 1) = l.take i ++ [l.getD i []] := by
 rw [List.take_add_one, List.getElem?_eq_getElem hi, List.getD_eq_getElem?_getD, List.getElem?_eq_getElem hi]
 rfl
theorem sort_row (base : Nat) (v : Value) (l : List Bs) (hl : l.length < 4611686018427387904) (w : World) (hb : base ≤ w.heap.size) (h : SRow w base v l) :
  Calls Tryz.prog 78 #[v] w fun e w' => e = .returned (.tuple #[]) ∧ SRow w' base v (l.mergeSort fun x y => decide (x ≤ y)) ∧ Below base w w' := by
 by_cases hv : v = .slice none 0 0
 ·subst hv
  have h0 : l = [] := by
   rcases h.cells with ⟨_, h⟩ | ⟨g, cap, h, _⟩
   ·exact h
   ·cases h
  subst h0
  refine (calls_of_every_depth fun D => AnyS.slices_Sort_string_none_alone laysSort D none 0 w).mono ?_
  rintro e w' ⟨rfl, rfl⟩
  exact ⟨rfl, by simpa using SRow.nil _ _, Below.refl _ _⟩
 ·have h' : w.ownsRow base 9 1 v l.length (l.map encStr) := h
  obtain ⟨g, cap, rfl, h1, h2, h3, h4, h5, h6⟩ := Lib.holds_of_ownsRow h' hv
  refine (calls_of_every_depth fun D => AnyS.slices_Sort_string_alone laysSort D g 0 cap l w h6 h2 hl).mono ?_
  rintro e w' ⟨rfl, n, os, rfl⟩
  have hlen : (l.mergeSort fun x y => decide (x ≤ y)).length = l.length := List.length_mergeSort l
  rcases h'.2 with ⟨h0, _⟩ | ⟨g', cap', cur, hv', q1, q2, q3, q4, q5, q6⟩
  ·cases h0
  ·injection hv' with e1 _ e3
   injection e1 with e1
   injection e1 with e1 _ _
   subst e1 e3
   have hs := ownsRow_sorted (n := n) (os := os) (ts := l.mergeSort fun x y => decide (x ≤ y)) hlen q1 q2 q3 q4 q5
   refine ⟨rfl, ?_, grown_below (grownBy_sorted _) hb (fun k hk => by cases hk; exact q1)⟩
   unfold SRow
   rw [hlen]
   exact hs
theorem compact_row (base : Nat) (v : Value) (l : List Bs) (w : World) (hb : base ≤ w.heap.size) (h : SRow w base v l) :
  Calls Tryz.prog 79 #[v] w fun e w' => ∃ v', e = .returned v' ∧ SRow w' base v' (Lib.compact l) ∧ Below base w w' := by
 by_cases hv : v = .slice none 0 0
 ·subst hv
  have h0 : l = [] := by
   rcases h.cells with ⟨_, h⟩ | ⟨g, cap, h, _⟩
   ·exact h
   ·cases h
  subst h0
  refine (calls_of_every_depth fun D => AnyS.slices_Compact_string_empty_in laysCompact D none 0 w).mono ?_
  rintro e w' ⟨rfl, rfl⟩
  exact ⟨_, rfl, by simpa [Lib.compact, Lib.compactUpTo] using SRow.nil _ _, Below.refl _ _⟩
 ·have h' : w.ownsRow base 9 1 v l.length (l.map encStr) := h
  obtain ⟨g, cap, rfl, h1, h2, h3, h4, h5, h6⟩ := Lib.holds_of_ownsRow h' hv
  refine (calls_of_every_depth fun D => AnyS.slices_Compact_string_in laysCompact D g 0 cap l w h6 (by unfold maxLen at h4; omega) h3).mono ?_
  rintro e w' ⟨rfl, q, rfl⟩
  have hle := Lib.compact_length_le l
  have hc := Lib.ownsRow_putRow (q := q) (k := (Lib.compact l).length) (ys := Lib.compact l ++ List.replicate (l.length - (Lib.compact l).length) []) h' (by simp; omega) (by omega)
  rw [List.take_left] at hc
  exact ⟨_, rfl, hc, Lib.below_putRow (Below.refl _ _) h1⟩
theorem selP_take (a b : List Bs) (i : Nat) (hi : i < b.length) : selP a (b.take (i + 1)) = selP a (b.take i) ++ (if a.contains (b.getD i []) then [b.getD i []] else []) := by
 rw [takeSo b i hi]
 unfold selP
 rw [List.filter_append]
 congr 1
 cases h : a.contains (b.getD i [])
 ·rw [List.filter_cons_of_neg (by rw [h]; simp)]; simp
 ·rw [List.filter_cons_of_pos (by rw [h])]; simp
theorem selP_len (a b : List Bs) : (selP a b).length ≤ b.length := List.length_filter_le _ _
theorem mboth_any (u v : Value) (a b : List Bs) (ha : a.length ≤ 1000) (hb0 : b.length ≤ 1000) (hal : ∀ i, i < a.length → (a.getD i []).length ≤ maxLen) (hbl : ∀ i, i < b.length → (b.getD i []).length ≤ maxLen) (w : World) (hu : SS w u a) (hv : SS w v b) :
  Calls Tryz.prog 41 #[u, v] w fun e w' => ∃ x, e = .returned x ∧ SRow w' w.heap.size x (bothP a b) ∧ Below w.heap.size w w' := by
 have hmm := @run_makeMap Tryz.prog
 obtain ⟨pa, ca, rfl⟩ := hu.form
 obtain ⟨pb, cb, rfl⟩ := hv.form
 have HU := Lib.hid hu
 have HV := Lib.hid hv
 clear hu hv
 go_enter Tryz.func41, Tryz.ntmps41
 go_wp2_with fail
 go_loopw [14] (fun s14 wr => ∃ i : Nat, i ≤ a.length ∧ s14 = .int .i64 i ∧ wr.ownsMap Tryz.prog 9 (plainElem Tryz.prog 3) w.heap.size i (cntD (a.take i).reverse) ∧ Below w.heap.size w wr) (fun s14 _ => a.length - (intOf s14).toNat)
 case atStart => exact ⟨0, by omega, rfl, World.ownsMap_made _ _ _ _, (Below.refl _ _).alloc (Nat.le_refl _) _⟩
 case round =>
  obtain ⟨i, hi, rfl, hown, hbm⟩ := hrel
  by_cases hlt : i < a.length
  ·obtain ⟨g, off, rfl, c1⟩ := (HU.out.keep hbm).at i hlt
   have hnx : cntD (a.take (i + 1)).reverse = (cntD (a.take i).reverse).put (.string (a.getD i [])) (.lit (.int .i64 ((((a.take i).reverse.count (a.getD i []) + 1 : Nat)) : Int))) := by
    rw [List.take_succ_eq_append_getElem hlt, List.reverse_append]
    simp [cntD, List.getD, List.getElem?_eq_getElem hlt]
   have hkey : keyOf Tryz.prog 9 (.string ⟨List.toArray (a.getD i [])⟩) = some (.string (a.getD i [])) := keyOf_string_mk Tryz.underlying9 (by simpa [ByteArray.size] using hal i hlt)
   generalize a.getD i [] = n at *
   obtain ⟨k, hrun, hat, _⟩ := hown.lookup_int keyedS Tryz.underlying102 Tryz.underlying3 (zeroI _) hkey
   have hkc : k = ((a.take i).reverse.count n : Nat) := by
    rw [cntD_at] at hat
    injection hat with hat
    injection hat with _ hat
    exact hat.symm
   have hcl : (a.take i).reverse.count n ≤ i := Nat.le_trans (List.count_le_length) (by simp; omega)
   have q1 : IntKind.i64.wrap (k + 1) = k + 1 := IntWalk.i64_in _ (by omega)
   have hnx2 : cntD (a.take (i + 1)).reverse = (cntD (a.take i).reverse).put (.string n) (.lit (.int .i64 (k + 1))) := by rw [hnx, hkc]; rfl
   have hwf : (Lit.int .i64 (k + 1)).wf = true := by have h := wrap64_wf (k + 1); rw [← IntWalk.i64_left, q1] at h; exact h
   clear hnx hat hkc HU HV
   go_wp2_with (first
    | (at_mapUpdate; refine wpList_mapUpdate_own _ rfl _ _ _ 102 rfl 9 3 keyedS Tryz.underlying102 _ w.heap.size i _ rfl hown (by unfold maxLen; omega) _ _ _ rfl rfl hkey _ [] (plainElem_int Tryz.underlying3 hwf) ?_)
    | go_in)
   intro w2 hown2 hgrow
   have R1 := hnx2.symm ▸ hown2
   have R2 := hbm.grown hgrow hbm.size (fun j hj => by cases hj; exact Nat.le_refl _)
   clear hown2 hgrow hown hrun
   go_wp2_with fail
   exact ⟨⟨i + 1, by omega, by go_num, R1, R2⟩, by simp [intOf]; omega⟩
  ·obtain rfl : i = a.length := by omega
   obtain ⟨wq, h⟩ := Below.nm hbm
   subst h
   rw [List.take_length] at hown
   have hqs := hbm.size
   go_wp2_with fail
   go_loopw [8, 25] (fun s8 s25 wr => ∃ j : Nat, j ≤ b.length ∧ s25 = .int .i64 j ∧ SRow wr wq.heap.size s8 (selP a (b.take j)) ∧ Below wq.heap.size wq wr) (fun _ s25 _ => b.length - (intOf s25).toNat)
   case atStart => exact ⟨0, by omega, rfl, by simpa [selP] using SRow.nil _ _, Below.refl _ _⟩
   case round =>
    obtain ⟨j, hj, rfl, hS, hbj⟩ := hrel
    obtain ⟨wr, h⟩ := Below.nm hbj
    subst h
    have hbr := hbm.trans (hbj.mono hqs)
    by_cases hlt : j < b.length
    ·obtain ⟨g, off, rfl, c1⟩ := (HV.out.keep hbr).at j hlt
     have hnx := selP_take a b j hlt
     have hsl := selP_len a (b.take j)
     rw [List.length_take] at hsl
     have hn6 := hbl j hlt
     generalize hx : b.getD j [] = n at *
     have HX := Lib.hid hx
     have HNX := Lib.hid hnx
     clear hx hnx
     generalize selP a (b.take j) = ns at *
     have hown2 := ownsMap_keep hown hbj
     have hkey : keyOf Tryz.prog 9 (.string ⟨n.toArray⟩) = some (.string n) := keyOf_string_mk Tryz.underlying9 (by simpa [ByteArray.size] using hn6)
     obtain ⟨k, hrun, hat, _⟩ := hown2.lookup_int keyedS Tryz.underlying102 Tryz.underlying3 (zeroI _) hkey
     have hkc : k = (a.count n : Nat) := by
      rw [cntD_at, List.count_reverse] at hat
      injection hat with hat
      injection hat with _ hat
      exact hat.symm
     have hrs := hbj.size
     clear hat hown2
     cases hin : a.contains n
     ·have HN2 : Hid (selP a (b.take (j + 1)) = ns) := Lib.hid (by rw [HNX.out, hin]; simp)
      have hk0 : decide ((0 : Int) < k) = false := by
       have : a.count n = 0 := List.count_eq_zero.2 (by simpa using hin)
       rw [hkc, this]; rfl
      clear hkc HNX hin
      go_wp2_with fail
      exact ⟨⟨j + 1, by omega, by go_num, by rw [HN2.out]; exact hS, hbj⟩, by simp [intOf]; omega⟩
     ·have HN2 : Hid (selP a (b.take (j + 1)) = ns ++ [n]) := Lib.hid (by rw [HNX.out, hin]; simp)
      have hk0 : decide ((0 : Int) < k) = true := by
       have : 0 < a.count n := List.count_pos_iff.2 (by simpa using hin)
       rw [hkc, decide_eq_true_iff]; omega
      clear hkc HNX hin
      go_wp2_with (first
       | (at_builtin; refine wpList_appS rfl (.tmp 33) (.tmp 35) rfl wq.heap.size _ ns rfl (hS.alloc _) wr.heap.size 0 1 1 [n] rfl rfl (ssrc1 _ _ _) (by simp; omega) (by simp; omega) ?_; rintro v8 w8 hS8 hb8)
       | fail)
      exact ⟨⟨j + 1, by omega, by go_num, by rw [HN2.out]; exact hS8, (Below.allocS hbj (.cells #[.string ⟨n.toArray⟩] 9)).trans hb8⟩, by simp [intOf]; omega⟩
    ·obtain rfl : j = b.length := by omega
     rw [List.take_length] at hS
     have hsl := selP_len a b
     have hrs := hbj.size
     have HB : Hid (Lib.compact ((selP a b).mergeSort fun x y => decide (x ≤ y)) = bothP a b) := Lib.hid rfl
     generalize selP a b = ns at *
     go_wp2_with fail
     refine (sort_row wq.heap.size _ ns (by omega) _ hrs hS).mono ?_
     rintro e w9 ⟨rfl, hS9, hb9⟩
     have hb10 := hbj.trans hb9
     go_wp2_with fail
     refine (compact_row wq.heap.size _ _ _ hb10.size hS9).mono ?_
     rintro e w11 ⟨x, rfl, hS11, hb11⟩
     go_wp2_with fail
     all_goals (go_ret; refine ⟨x, rfl, ?_, (hbm.trans (hb10.mono hqs)).trans (hb11.mono hqs)⟩)
     rw [← HB.out]
     exact hS11.low hqs
end Go.Proofs.YthkpmlfaddlieaaGreatDoor
namespace Go.Proofs.YthkpmlfaddlieaaGreatDoor
open Go.RowKit Pl
namespace Pl
theorem sum_mono (X Y : List Bs) (h : ∀ x, x ∈ X → x ∈ Y) : ∀ l : List (Bs × Int), (∀ m ∈ l, 0 ≤ m.2) → sumOf X l ≤ sumOf Y l
 | [], _ => by simp [sumOf]
 | m :: l, hp => by
  have ih := sum_mono X Y h l (fun x hx => hp x (by simp [hx]))
  have h0 := hp m (by simp)
  simp only [sumOf, List.contains_iff_mem]
  by_cases h1 : m.1 ∈ X
  ·rw [if_pos h1, if_pos (h _ h1)]; omega
  ·rw [if_neg h1]
   by_cases h2 : m.1 ∈ Y
   ·rw [if_pos h2]; omega
   ·rw [if_neg h2]; omega
theorem sum_incl (A B C : List Bs) (h : ∀ x, x ∈ A → x ∈ B → x ∈ C) : ∀ l : List (Bs × Int), (∀ m ∈ l, 0 ≤ m.2) → sumOf A l + sumOf B l ≤ sumM l + sumOf C l
 | [], _ => by simp [sumOf, sumM]
 | m :: l, hp => by
  have ih := sum_incl A B C h l (fun x hx => hp x (by simp [hx]))
  have h0 := hp m (by simp)
  simp only [sumOf, sumM, List.contains_iff_mem]
  by_cases h1 : m.1 ∈ A
  ·by_cases h2 : m.1 ∈ B
   ·rw [if_pos h1, if_pos h2, if_pos (h _ h1 h2)]; omega
   ·rw [if_pos h1, if_neg h2]
    split <;> omega
  ·rw [if_neg h1]
   split <;> split <;> omega
theorem pow_pos_of {l : List (Bs × Int)} (hc : chkM l = true) : ∀ m ∈ l, 0 ≤ m.2 := by
 simp only [chkM, Bool.and_eq_true, decide_eq_true_eq] at hc
 intro m hm
 obtain ⟨i, hi, rfl⟩ := List.getElem_of_mem hm
 have := (okM_at l [] hc.2 i hi).2.1
 rw [List.getD_eq_getElem?_getD, List.getElem?_eq_getElem hi] at this
 simp at this
 omega
theorem tot_pos {l : List (Bs × Int)} (hc : chkM l = true) : 1 ≤ totM l := by
 have hc2 := hc
 simp only [chkM, Bool.and_eq_true, decide_eq_true_eq] at hc2
 have h := sumM_take l (fun i hi => (okM_at l [] hc2.2 i hi).2) l.length (by omega)
 rw [List.take_length] at h
 rw [totM, if_pos hc]
 have := hc2.1.1
 omega
theorem quo_of {l : List (Bs × Int)} (hc : chkM l = true) : quoM l = 2 * totM l / 3 + 1 := by
 have := tot_pos hc
 unfold quoM
 rw [if_neg (by omega), Int.tdiv_eq_ediv_of_nonneg (by omega)]
theorem most_of {l : List (Bs × Int)} (hc : chkM l = true) : mostM l = (totM l - 1) / 3 := by
 have := tot_pos hc
 unfold mostM
 rw [if_neg (by omega), Int.tdiv_eq_ediv_of_nonneg (by omega)]
theorem of_bound {l : List (Bs × Int)} (X : List Bs) (hc : chkM l = true) : 0 ≤ ofM l X ∧ ofM l X ≤ 7000 := by
 have hc2 := hc
 simp only [chkM, Bool.and_eq_true, decide_eq_true_eq] at hc2
 have h := sumOf_take X l (fun i hi => (okM_at l [] hc2.2 i hi).2) l.length (by omega)
 rw [List.take_length] at h
 rw [ofM, if_pos hc]
 omega
theorem over_law {l : List (Bs × Int)} {A B C : List Bs} (hc : chkM l = true) (h : IsBoth A B C) :
  ofM l C ≤ ofM l A ∧ ofM l C ≤ ofM l B ∧ (quoM l ≤ ofM l A → quoM l ≤ ofM l B → mostM l < ofM l C ∧ totM l < 3 * ofM l C) := by
 have hp := pow_pos_of hc
 have h1 := sum_mono C A (fun x hx => ((h.2 x).1 hx).1) l hp
 have h2 := sum_mono C B (fun x hx => ((h.2 x).1 hx).2) l hp
 have h3 := sum_incl A B C (fun x ha hb => (h.2 x).2 ⟨ha, hb⟩) l hp
 have ht := tot_pos hc
 rw [quo_of hc, most_of hc]
 simp only [ofM, totM, hc, if_true] at *
 refine ⟨h1, h2, fun h4 h5 => ⟨?_, ?_⟩⟩ <;> omega
end Pl
end Go.Proofs.YthkpmlfaddlieaaGreatDoor
namespace Go.Proofs.YthkpmlfaddlieaaGreatDoor
namespace Pl
theorem isIn_mem (L : List Sg) (n m : Bs) : isIn L n m = true ↔ (n, m) ∈ L.map keyOfS := by simp [isIn]
theorem signL_grows (L : List Sg) (who mark : Bs) (h : Bool) (n m : Bs) (hn : isIn L n m = true) : isIn (signL L who mark h).1 n m = true := by
 unfold signL
 split
 ·exact hn
 ·split
  ·exact hn
  ·split
   ·rename_i hin
    rw [isIn_mem, keys_set L who mark _ hin]
    exact (isIn_mem L n m).1 hn
   ·split
    ·exact hn
    ·rw [isIn_mem] at hn ⊢
     simp only [List.map_append, List.mem_append]
     exact .inl hn
theorem good_parts {tag : Int} {l : List (Bs × Int)} {d : Bs} {ns : List Bs} {L : List Sg} (h : goodC tag l d ns L = 0) :
  firstC tag l (mayC d ns) = 0 ∧ chkA l ns = true ∧ chkB L (tagP tag.toNat d) ns = true ∧ quoM l ≤ ofM l ns := by
 by_cases h0 : firstC tag l (mayC d ns) = 0
 ·rw [goodC_in h0] at h
  unfold goodIn at h
  cases ha : chkA l ns
  ·simp [ha] at h
  ·cases hb : chkB L (tagP tag.toNat d) ns
   ·simp [ha, hb] at h
   ·simp only [ha, hb, Bool.true_eq_false, if_false] at h
    by_cases hq : ofM l ns < quoM l
    ·rw [if_pos hq] at h; exact absurd h (by decide)
    ·exact ⟨h0, rfl, rfl, by omega⟩
 ·rw [goodC_out h0] at h
  exact absurd h h0
theorem two_good {tag : Int} {l : List (Bs × Int)} {d e : Bs} {a b both : List Bs} {L : List Sg} (ha : goodC tag l d a L = 0) (hb : goodC tag l e b L = 0) (h : IsBoth a b both) :
  (∀ n ∈ both, isIn L n (tagP tag.toNat d) = true ∧ isIn L n (tagP tag.toNat e) = true) ∧ mostM l < ofM l both ∧ totM l < 3 * ofM l both ∧ tagC tag = true ∧ d.length = 32 ∧ e.length = 32 ∧ chkM l = true := by
 obtain ⟨a1, a2, a3, a4⟩ := good_parts ha
 obtain ⟨b1, b2, b3, b4⟩ := good_parts hb
 obtain ⟨hm, ht, hc⟩ := first_zero a1
 obtain ⟨hm2, _, _⟩ := first_zero b1
 obtain ⟨h1, h2, h3⟩ := over_law hc h
 obtain ⟨h4, h5⟩ := h3 a4 b4
 refine ⟨fun n hn => ?_, h4, h5, ht, (mayC_parts hm).1, (mayC_parts hm2).1, hc⟩
 obtain ⟨na, nb⟩ := (h.2 n).1 hn
 unfold chkB at a3 b3
 rw [List.all_eq_true] at a3 b3
 exact ⟨a3 n na, b3 n nb⟩
end Pl
end Go.Proofs.YthkpmlfaddlieaaGreatDoor
namespace Go.Proofs.YthkpmlfaddlieaaGreatDoor
open Go.RowKit Pl
theorem signL_in {L : List Sg} {who mark : Bs} {h : Bool} {n m : Bs} (hi : isIn (signL L who mark h).1 n m = true) : isIn L n m = true ∨ (n = who ∧ m = mark ∧ mark.length = 32) := by
 unfold signL at hi
 split at hi
 ·exact .inl hi
 ·split at hi
  ·exact .inl hi
  ·rename_i h32
   split at hi
   ·rename_i hin
    left
    rw [isIn_mem] at hi ⊢
    rw [keys_set L who mark _ hin] at hi
    exact hi
   ·split at hi
    ·exact .inl hi
    ·rw [isIn_mem, List.map_append, List.mem_append] at hi
     rcases hi with hi | hi
     ·exact .inl ((isIn_mem _ _ _).2 hi)
     ·simp only [List.map_cons, List.map_nil, List.mem_singleton, keyOfS, Prod.mk.injEq] at hi
      exact .inr ⟨hi.1, hi.2, by simpa using h32⟩
def codeW (l : List (Bs × Int)) (A B : Hd) (dA : Bs) (nA : List Bs) (dB : Bs) (nB : List Bs) (T : List Sg) : Int :=
 if chkM l = false then 50
 else if fineH A = false ∨ fineH B = false then 190
 else if ¬ (A.height = B.height ∧ dgH A ≠ dgH B ∧ A.members = (dgM l) ∧ B.members = dgM l) then 4
 else if dA ≠ dgH A ∨ dB ≠ dgH B then 360
 else if goodC 6 l dA nA T ≠ 0 then goodC 6 l dA nA T
 else goodC 6 l dB nB T
theorem dgH_len {h : Hd} (hf : fineH h = true) : (dgH h).length = 32 := by rw [dgH_yes hf]; exact tagP_len _ _
theorem markP_six (s : Bs) : (markP 6 s).1 = if s.length = 32 then tagP 6 s else [] := by
 unfold markP
 rw [if_neg (by decide)]
 by_cases h : s.length = 32
 ·rw [if_neg (by simpa using h), if_pos h]; rfl
 ·rw [if_pos h, if_neg h]
end Go.Proofs.YthkpmlfaddlieaaGreatDoor
namespace Go.Proofs.YthkpmlfaddlieaaGreatDoor
open Go.RowKit Go.Shelf Pl
def BoO (W : World) (e : Ending) (w' : World) : Prop := (∃ b : Bool, e = .returned (.bool b)) ∧ Below W.heap.size W w'
theorem wbig_any (A : List Acc) (S : List (Bs × Int)) (B : List Bs) (many : Int) (va vs vb : Value) (w : World) (hA : AcL w va A) (hS : MS w vs S) (hB : SS w vb B) :
  Calls Tryz.prog 7 #[.agg (wdcs va vs many vb).toArray] w (BoO w) := by
 have B0 : Blk (w.alloc (.cells (wdcs va vs many vb).toArray 26)) w.heap.size (wdcs va vs many vb).toArray := Blk.new _ _ _
 have hb0 : Below w.heap.size w (w.alloc (.cells (wdcs va vs many vb).toArray 26)) := Below.allocS (Below.refl _ _) _
 have HA := Lib.hid (hA.keep hb0)
 have HB := Lib.hid (hB.keep hb0)
 obtain ⟨aa, ac, rfl⟩ := hA.form
 obtain ⟨sa, sc, rfl⟩ := hS.form
 obtain ⟨ba, bc, rfl⟩ := hB.form
 have hal : A.length ≤ 9223372036854775807 := by obtain ⟨a, c, _, h1, h2, _⟩ := hA; unfold maxLen at h2; omega
 have c0 := B0.cell 0
 have c1 := B0.cell 1
 have c3 := B0.cell 3
 simp only [wdcs, List.getElem?_toArray, List.getElem?_cons_zero, List.getElem?_cons_succ] at c0 c1 c3
 have hb1 : Below w.heap.size w (w.alloc (.cells (wdcs (.slice aa A.length ac) (.slice sa S.length sc) many (.slice ba B.length bc)).toArray 26)) := hb0
 clear B0 hB hA hS hb0
 go_enter Tryz.func7, Tryz.ntmps7
 simp only [wdcs] at c0 c1 c3 HA HB hb1 ⊢
 go_wp2_with fail
 generalize w.alloc (.cells (List.toArray [.slice aa A.length ac, .slice sa S.length sc, .int .i64 many, .slice ba B.length bc]) 26) = W at *
 have qf := few_any (.slice ba B.length bc) B 20 100 W HB.out
 go_loopw [3] (fun s3 wr => ∃ i : Nat, s3 = .int .i64 i ∧ i ≤ A.length ∧ wr = W) (fun s3 _ => A.length - (intOf s3).toNat)
 case atStart => exact ⟨0, rfl, by omega, rfl⟩
 case round =>
  obtain ⟨i, rfl, hi, rfl⟩ := hrel
  by_cases hlt : i < A.length
  ·have i1 : decide ((i : Int) < (A.length : Int)) = true := by simp; omega
   have i2 : (i : Int) < (A.length : Int) := by omega
   obtain ⟨g, off, e1, hg, hr⟩ := HA.out.at i hlt
   subst e1
   generalize A.getD i acZ = x at *
   obtain ⟨nm, am, sq⟩ := x
   have c4 : wr.cell? ⟨g, off + i * 3, none⟩ = some (.string ⟨nm.toArray⟩) := hr 0 _ rfl
   have HL := Lib.hid hlt
   clear hr hlt
   by_cases hnl : 100 < nm.length
   ·have k1 : decide ((100 : Int) < (nm.length : Int)) = true := by rw [decide_eq_true_eq]; omega
    clear hnl
    go_wp2_with fail
    go_ret
    exact ⟨⟨true, rfl⟩, hb1⟩
   ·have k1 : decide ((100 : Int) < (nm.length : Int)) = false := by rw [decide_eq_false_iff_not]; omega
    clear hnl
    go_wp2_with fail
    exact ⟨⟨i + 1, by go_num, by have := HL.out; omega, trivial⟩, by have := HL.out; simp [intOf]; omega⟩
  ·have i1 : decide ((i : Int) < (A.length : Int)) = false := by simp; omega
   have i3 : decide (i < A.length) = false := by rw [decide_eq_false_iff_not]; omega
   have i4 : ¬ i < A.length := hlt
   by_cases h1 : 20 < A.length
   ·have k1 : decide ((20 : Int) < (A.length : Int)) = true := by rw [decide_eq_true_eq]; omega
    go_wp2_with fail
    go_ret
    exact ⟨⟨true, rfl⟩, hb1⟩
   ·have k1 : decide ((20 : Int) < (A.length : Int)) = false := by rw [decide_eq_false_iff_not]; omega
    by_cases h2 : 100 < S.length
    ·have k2 : decide ((100 : Int) < (S.length : Int)) = true := by rw [decide_eq_true_eq]; omega
     go_wp2_with fail
     go_ret
     exact ⟨⟨true, rfl⟩, hb1⟩
    ·have k2 : decide ((100 : Int) < (S.length : Int)) = false := by rw [decide_eq_false_iff_not]; omega
     generalize fewP B 20 100 = q at *
     go_wp2_with fail
     refine qf.mono ?_
     rintro e w2 ⟨rfl, hb2⟩
     go_wp2_with fail
     go_ret
     exact ⟨⟨!q, rfl⟩, hb1.trans (hb2.mono hb1.size)⟩
end Go.Proofs.YthkpmlfaddlieaaGreatDoor
