/- Shelf, BothP, OfP, MTot, Of, RList, Sort, MRow, Orac. -/
import Derived.Test.YtdddcncjmnekcaaGreatDoorProg
import Derived.Shelf.Slices.In.SortNone
import Derived.Lib.SlicesCompact
import Derived.Maps.Views
import Derived.Maps.OwnOps
import Derived.Maps.Own
import Derived.Sort.OwnSorted
import Derived.Sort.EveryDepth
import Derived.Lib.OwnBridge
import Derived.DeepKeys4
import Derived.Maps.OwnSet
import Derived.Test.YtdddcncjmnekcaaGreatDoorMg1
import Derived.Test.YtdddcncjmnekcaaGreatDoorMg3
import Derived.Test.YtdddcncjmnekcaaGreatDoorMg5
set_option linter.unnecessarySimpa false

/- The laws of the library that the sorts lean on, at this program. -/
set_option linter.unusedVariables false
namespace Go.Proofs.YtdddcncjmnekcaaGreatDoor
open Go.Shelf

def laysSort_ren : Go.Shelf.Ren := ⟨fun | 190 => 49 | 125 => 71 | 258 => 70 | 128 => 96 | 129 => 97 | 302 => 87 | 303 => 88 | 304 => 89 | 305 => 90 | 306 => 91 | 307 => 92 | 308 => 93 | 309 => 94 | 310 => 95 | 333 => 102 | 329 => 103 | 330 => 104 | 334 => 105 | 335 => 106 | 336 => 107 | 344 => 111 | n => n, fun | 31 => 26 | 9 => 9 | 3 => 3 | 46 => 85 | 0 => 0 | 51 => 95 | 53 => 118 | 4 => 4 | 183 => 134 | 182 => 133 | 131 => 60 | 5 => 5 | 218 => 145 | 222 => 149 | 228 => 155 | 229 => 156 | n => n, fun | n => n⟩
theorem laysSort : Go.Proofs.Lays.n190 Tryz.prog laysSort_ren := {
  mixed := by kernel_rfl
  f125 := Tryz.func71.trans (congrArg some (by kernel_rfl))
  f128 := Tryz.func96.trans (congrArg some (by kernel_rfl))
  f129 := Tryz.func97.trans (congrArg some (by kernel_rfl))
  f190 := Tryz.func49.trans (congrArg some (by kernel_rfl))
  f258 := Tryz.func70.trans (congrArg some (by kernel_rfl))
  f302 := Tryz.func87.trans (congrArg some (by kernel_rfl))
  f303 := Tryz.func88.trans (congrArg some (by kernel_rfl))
  f304 := Tryz.func89.trans (congrArg some (by kernel_rfl))
  f305 := Tryz.func90.trans (congrArg some (by kernel_rfl))
  f306 := Tryz.func91.trans (congrArg some (by kernel_rfl))
  f307 := Tryz.func92.trans (congrArg some (by kernel_rfl))
  f308 := Tryz.func93.trans (congrArg some (by kernel_rfl))
  f309 := Tryz.func94.trans (congrArg some (by kernel_rfl))
  f310 := Tryz.func95.trans (congrArg some (by kernel_rfl))
  f329 := Tryz.func103.trans (congrArg some (by kernel_rfl))
  f330 := Tryz.func104.trans (congrArg some (by kernel_rfl))
  f333 := Tryz.func102.trans (congrArg some (by kernel_rfl))
  f334 := Tryz.func105.trans (congrArg some (by kernel_rfl))
  f335 := Tryz.func106.trans (congrArg some (by kernel_rfl))
  f336 := Tryz.func107.trans (congrArg some (by kernel_rfl))
  f344 := Tryz.func111.trans (congrArg some (by kernel_rfl))
  t0 := Tryz.underlying0
  a0 := Tryz.isAgg0
  z0 := Tryz.sizeOf0
  v0 := Tryz.zeroValue0
  t3 := Tryz.underlying3
  a3 := Tryz.isAgg3
  z3 := Tryz.sizeOf3
  v3 := Tryz.zeroValue3
  t4 := Tryz.underlying4
  a4 := Tryz.isAgg4
  z4 := Tryz.sizeOf4
  v4 := Tryz.zeroValue4
  t5 := Tryz.underlying5
  a5 := Tryz.isAgg5
  z5 := Tryz.sizeOf5
  v5 := Tryz.zeroValue5
  t9 := Tryz.underlying9
  a9 := Tryz.isAgg9
  z9 := Tryz.sizeOf9
  v9 := Tryz.zeroValue9
  t31 := Tryz.underlying26
  a31 := Tryz.isAgg26
  z31 := Tryz.sizeOf26
  v31 := Tryz.zeroValue26
  t46 := Tryz.underlying85
  a46 := Tryz.isAgg85
  z46 := Tryz.sizeOf85
  v46 := Tryz.zeroValue85
  t51 := Tryz.underlying95
  a51 := Tryz.isAgg95
  z51 := Tryz.sizeOf95
  v51 := Tryz.zeroValue95
  t53 := Tryz.underlying118
  a53 := Tryz.isAgg118
  z53 := Tryz.sizeOf118
  v53 := Tryz.zeroValue118
  t131 := Tryz.underlying60
  a131 := Tryz.isAgg60
  z131 := Tryz.sizeOf60
  v131 := Tryz.zeroValue60
  t182 := Tryz.underlying133
  a182 := Tryz.isAgg133
  z182 := Tryz.sizeOf133
  v182 := Tryz.zeroValue133
  t183 := Tryz.underlying134
  a183 := Tryz.isAgg134
  z183 := Tryz.sizeOf134
  v183 := Tryz.zeroValue134
  t218 := Tryz.underlying145
  a218 := Tryz.isAgg145
  z218 := Tryz.sizeOf145
  v218 := Tryz.zeroValue145
  t222 := Tryz.underlying149
  a222 := Tryz.isAgg149
  z222 := Tryz.sizeOf149
  v222 := Tryz.zeroValue149
  t228 := Tryz.underlying155
  a228 := Tryz.isAgg155
  z228 := Tryz.sizeOf155
  v228 := Tryz.zeroValue155
  t229 := Tryz.underlying156
  a229 := Tryz.isAgg156
  z229 := Tryz.sizeOf156
  v229 := Tryz.zeroValue156 }

end Go.Proofs.YtdddcncjmnekcaaGreatDoor

/- Plain: what two lists have in common, in order, none twice. -/
set_option linter.unusedSimpArgs false
set_option linter.unusedVariables false
namespace Go.Proofs.YtdddcncjmnekcaaGreatDoor
namespace Pl

/-- l has what is in both, in order, none twice. -/
def IsBoth (a b l : List Bs) : Prop := l.Pairwise (fun x y => x < y) ∧ ∀ x, x ∈ l ↔ x ∈ a ∧ x ∈ b
theorem sorted_uniq : ∀ (l m : List Bs), l.Pairwise (fun x y => x < y) → m.Pairwise (fun x y => x < y) → (∀ x, x ∈ l ↔ x ∈ m) → l = m
  | [], [], _, _, _ => rfl
  | [], y :: m, _, _, h => absurd ((h y).2 (by simp)) (by simp)
  | x :: l, [], _, _, h => absurd ((h x).1 (by simp)) (by simp)
  | x :: l, y :: m, hl, hm, h => by
    rw [List.pairwise_cons] at hl hm
    have hxy : x = y := by
      rcases List.mem_cons.1 ((h x).1 (by simp)) with e | h1
      · exact e
      · rcases List.mem_cons.1 ((h y).2 (by simp)) with e | h2
        · exact e.symm
        · exact absurd (List.lt_trans (hl.1 y h2) (hm.1 x h1)) (List.lt_irrefl x)
    subst hxy
    have ht : l = m := sorted_uniq l m hl.2 hm.2 (fun z => by
      constructor
      · intro hz
        rcases List.mem_cons.1 ((h z).1 (by simp [hz])) with e | h1
        · subst e; exact absurd (hl.1 z hz) (List.lt_irrefl z)
        · exact h1
      · intro hz
        rcases List.mem_cons.1 ((h z).2 (by simp [hz])) with e | h1
        · subst e; exact absurd (hm.1 z hz) (List.lt_irrefl z)
        · exact h1)
    rw [ht]
theorem isBoth_uniq {a b l m : List Bs} (h : IsBoth a b l) (k : IsBoth a b m) : l = m :=
  sorted_uniq l m h.1 k.1 (fun x => (h.2 x).trans (k.2 x).symm)

theorem upTo_mem (d : Array Bs) : ∀ m, m ≤ d.size → ∀ x, x ∈ Lib.compactUpTo d m ↔ ∃ j, j < m ∧ d[j]! = x
  | 0, _, x => by simp [Lib.compactUpTo]
  | m + 1, hm, x => by
    rw [Lib.compactUpTo_succ, List.mem_append, upTo_mem d m (by omega) x]
    constructor
    · rintro (⟨j, hj, e⟩ | h)
      · exact ⟨j, by omega, e⟩
      · split at h
        · simp at h; exact ⟨m, by omega, h.symm⟩
        · simp at h
    · rintro ⟨j, hj, e⟩
      rcases Nat.lt_or_eq_of_le (Nat.le_of_lt_succ hj) with h | h
      · exact .inl ⟨j, h, e⟩
      · subst h
        by_cases hk : Lib.keeps d j = true
        · exact .inr (by rw [if_pos hk]; simp [e])
        · unfold Lib.keeps at hk
          simp only [decide_eq_true_eq, not_or, ne_eq, Classical.not_not] at hk
          exact .inl ⟨j - 1, by omega, hk.2.symm.trans e⟩
theorem upTo_sorted (d : Array Bs) (hd : ∀ i j, i ≤ j → j < d.size → d[i]! ≤ d[j]!) : ∀ m, m ≤ d.size → (Lib.compactUpTo d m).Pairwise (fun x y => x < y)
  | 0, _ => by simp [Lib.compactUpTo]
  | m + 1, hm => by
    rw [Lib.compactUpTo_succ, List.pairwise_append]
    refine ⟨upTo_sorted d hd m (by omega), by split <;> simp, fun x hx y hy => ?_⟩
    split at hy
    · rename_i hk
      simp at hy
      subst hy
      obtain ⟨j, hj, rfl⟩ := (upTo_mem d m (by omega) x).1 hx
      unfold Lib.keeps at hk
      simp only [decide_eq_true_eq] at hk
      have hne : d[m]! ≠ d[m - 1]! := by
        rcases hk with h | h
        · omega
        · exact h
      have h1 := hd j (m - 1) (by omega) (by omega)
      have h2 := hd (m - 1) m (by omega) (by omega)
      refine List.lt_of_le_of_lt h1 ?_
      rcases Classical.em (d[m - 1]! < d[m]!) with h | h
      · exact h
      · exact absurd (List.le_antisymm (List.not_lt.1 h) h2) hne
    · simp at hy
theorem compact_sorted (zs : List Bs) (h : zs.Pairwise (fun x y => x ≤ y)) : (Lib.compact zs).Pairwise (fun x y => x < y) := by
  unfold Lib.compact
  refine upTo_sorted zs.toArray (fun i j hij hj => ?_) zs.length (by simp)
  simp at hj
  rw [getElem!_pos _ _ (by simp; omega), getElem!_pos _ _ (by simpa using hj)]
  simp only [List.getElem_toArray]
  rcases Nat.lt_or_eq_of_le hij with hlt | rfl
  · exact List.pairwise_iff_getElem.1 h i j (by omega) hj hlt
  · exact List.le_refl _
theorem compact_mem (zs : List Bs) (x : Bs) : x ∈ Lib.compact zs ↔ x ∈ zs := by
  unfold Lib.compact
  rw [upTo_mem zs.toArray zs.length (by simp)]
  constructor
  · rintro ⟨j, hj, rfl⟩
    rw [getElem!_pos _ _ (by simpa using hj)]
    simp
  · intro hx
    obtain ⟨j, hj, rfl⟩ := List.getElem_of_mem hx
    exact ⟨j, hj, by rw [getElem!_pos _ _ (by simpa using hj)]; simp⟩
/-- The program's way. -/
def selP (a b : List Bs) : List Bs := b.filter fun x => a.contains x
def bothP (a b : List Bs) : List Bs := Lib.compact ((selP a b).mergeSort fun x y => decide (x ≤ y))
theorem bothP_is (a b : List Bs) : IsBoth a b (bothP a b) := by
  constructor
  · refine compact_sorted _ ?_
    have h := List.pairwise_mergeSort (le := fun x y : Bs => decide (x ≤ y)) (fun x y z h k => by simp only [decide_eq_true_eq] at *; exact List.le_trans h k) (fun x y => by simp only [Bool.or_eq_true, decide_eq_true_eq]; exact List.le_total x y) (selP a b)
    exact h.imp (fun {x y} h => by simpa using h)
  · intro x
    unfold bothP
    rw [compact_mem, (List.mergeSort_perm (selP a b) _).mem_iff]
    unfold selP
    rw [List.mem_filter]
    simp only [List.contains_iff_mem]
    exact And.comm

/-! the document's way: the least one that is left, again and again -/
theorem nodup_len : ∀ (l a : List Bs), l.Nodup → (∀ x ∈ l, x ∈ a) → l.length ≤ a.length
  | [], _, _, _ => by simp
  | x :: l, a, hn, h => by
    rw [List.nodup_cons] at hn
    have hx : x ∈ a := h x (by simp)
    have ih := nodup_len l (a.erase x) hn.2 (fun y hy => (List.mem_erase_of_ne (fun e => hn.1 (by rw [← e]; exact hy))).2 (h y (by simp [hy])))
    rw [List.length_erase_of_mem hx] at ih
    have : 0 < a.length := List.length_pos_of_mem hx
    simp only [List.length_cons]
    omega
def cand (b out : List Bs) (x : Bs) : Bool := b.contains x && !out.contains x
def LeastAt (a b out : List Bs) (i : Nat) (at_ : Int) : Prop :=
  (at_ = -1 ∧ ∀ j, j < i → cand b out (a.getD j []) = false) ∨ ∃ j : Nat, j < i ∧ at_ = j ∧ cand b out (a.getD j []) = true ∧ ∀ k, k < i → cand b out (a.getD k []) = true → a.getD j [] ≤ a.getD k []
structure Sel (a b out : List Bs) (k : Nat) : Prop where
  sorted : out.Pairwise (fun x y => x < y)
  sub : ∀ x ∈ out, x ∈ a ∧ x ∈ b
  above : ∀ x ∈ a, x ∈ b → x ∉ out → ∀ y ∈ out, y < x
  full : out.length = k ∨ ∀ x ∈ a, x ∈ b → x ∈ out
theorem Sel.zero (a b : List Bs) : Sel a b [] 0 := ⟨List.Pairwise.nil, by simp, by simp, .inl rfl⟩
theorem getD_mem (a : List Bs) (j : Nat) (hj : j < a.length) : a.getD j [] ∈ a := by
  rw [List.getD_eq_getElem?_getD, List.getElem?_eq_getElem hj]
  exact List.getElem_mem hj
theorem mem_getD' (a : List Bs) (x : Bs) (hx : x ∈ a) : ∃ j, j < a.length ∧ a.getD j [] = x := by
  obtain ⟨j, hj, rfl⟩ := List.getElem_of_mem hx
  exact ⟨j, hj, by rw [List.getD_eq_getElem?_getD, List.getElem?_eq_getElem hj]; rfl⟩
theorem cand_true {b out : List Bs} {x : Bs} : cand b out x = true ↔ x ∈ b ∧ x ∉ out := by
  simp [cand]
theorem Sel.none {a b out : List Bs} {k : Nat} (h : Sel a b out k) (hl : LeastAt a b out a.length (-1)) : Sel a b out (k + 1) := by
  refine ⟨h.sorted, h.sub, h.above, .inr (fun x hx hb => ?_)⟩
  rcases hl with ⟨_, hl⟩ | ⟨j, _, e, _⟩
  · obtain ⟨j, hj, rfl⟩ := mem_getD' a x hx
    have := hl j hj
    rcases Classical.em (a.getD j [] ∈ out) with h1 | h1
    · exact h1
    · rw [cand_true.2 ⟨hb, h1⟩] at this
      exact absurd this (by simp)
  · omega
theorem Sel.some {a b out : List Bs} {k j : Nat} (h : Sel a b out k) (hj : j < a.length) (hc : cand b out (a.getD j []) = true) (hl : ∀ k, k < a.length → cand b out (a.getD k []) = true → a.getD j [] ≤ a.getD k []) : Sel a b (out ++ [a.getD j []]) (k + 1) := by
  obtain ⟨hb, hn⟩ := cand_true.1 hc
  have hm := getD_mem a j hj
  refine ⟨?_, ?_, ?_, ?_⟩
  · rw [List.pairwise_append]
    refine ⟨h.sorted, by simp, fun x hx y hy => ?_⟩
    simp at hy
    subst hy
    exact h.above _ hm hb hn x hx
  · intro x hx
    rcases List.mem_append.1 hx with hx | hx
    · exact h.sub x hx
    · simp at hx; subst hx; exact ⟨hm, hb⟩
  · intro x hx hxb hxo y hy
    have hxo' : x ∉ out := fun h => hxo (List.mem_append.2 (.inl h))
    rcases List.mem_append.1 hy with hy | hy
    · exact h.above x hx hxb hxo' y hy
    · simp at hy
      subst hy
      obtain ⟨i, hi, rfl⟩ := mem_getD' a x hx
      have h1 := hl i hi (cand_true.2 ⟨hxb, hxo'⟩)
      rcases Classical.em (a.getD j [] < a.getD i []) with h2 | h2
      · exact h2
      · have he := List.le_antisymm h1 (List.not_lt.1 h2)
        exact absurd (List.mem_append.2 (.inr (by rw [he]; exact List.mem_singleton.2 rfl))) hxo
  · rcases h.full with h1 | h1
    · exact .inl (by simp [h1])
    · exact absurd (h1 _ hm hb) hn
theorem Sel.is {a b out : List Bs} (h : Sel a b out a.length) : IsBoth a b out := by
  refine ⟨h.sorted, fun x => ⟨h.sub x, fun ⟨hx, hb⟩ => ?_⟩⟩
  rcases h.full with h1 | h1
  · rcases Classical.em (x ∈ out) with h2 | h2
    · exact h2
    · have hn : (x :: out).Nodup := List.nodup_cons.2 ⟨h2, h.sorted.imp (fun {a b} h e => by subst e; exact absurd h (List.lt_irrefl _))⟩
      have := nodup_len (x :: out) a hn (fun y hy => by
        rcases List.mem_cons.1 hy with rfl | hy
        · exact hx
        · exact (h.sub y hy).1)
      simp only [List.length_cons] at this
      omega
  · exact h1 x hx hb
end Pl
end Go.Proofs.YtdddcncjmnekcaaGreatDoor

/- Plain: how often names were counted in a map. -/
set_option linter.unusedVariables false
namespace Go.Proofs.YtdddcncjmnekcaaGreatDoor
open Go.Maps
namespace Pl

/-- The map behind these names, the last first. -/
def cntD : List Bs → DataW Unit
  | [] => .map []
  | n :: r => (cntD r).put (.string n) (.lit (.int .i64 (((r.count n + 1 : Nat)) : Int)))
theorem cntD_map : ∀ r, IsMap (cntD r)
  | [] => ⟨[], rfl⟩
  | n :: r => by
    obtain ⟨es, h⟩ := cntD_map r
    unfold cntD
    rw [h]
    exact ⟨_, rfl⟩
theorem cntD_at : ∀ (r : List Bs) (n : Bs), (cntD r).atKey (.string n) (.lit (.int .i64 0)) = .lit (.int .i64 ((r.count n : Nat) : Int))
  | [], n => rfl
  | x :: r, n => by
    unfold cntD
    by_cases h : n = x
    · subst h
      rw [atKey_put_same (cntD_map r) (by first | trivial | exact rfl | simp [WideAt.IsKeyLit])]
      simp
    · rw [atKey_put_other (by intro e; injection e with e; exact h e), cntD_at r n]
      rw [List.count_cons_of_ne (fun e => h e.symm)]

end Pl
end Go.Proofs.YtdddcncjmnekcaaGreatDoor

/- The power of a set; a quorum, what may be faulty: the program's. -/
set_option linter.unusedSimpArgs false
set_option linter.unusedVariables false
namespace Go.Proofs.YtdddcncjmnekcaaGreatDoor
open Go.RowKit Pl

namespace Pl
def sumM : List (Bs × Int) → Int
  | [] => 0
  | x :: r => x.2 + sumM r
def totM (l : List (Bs × Int)) : Int := if chkM l then sumM l else 0
theorem sumM_app (a : List (Bs × Int)) (x : Bs × Int) : sumM (a ++ [x]) = sumM a + x.2 := by
  induction a with
  | nil => simp [sumM]
  | cons y r ih => simp only [List.cons_append, sumM, ih]; omega
theorem sumM_take (l : List (Bs × Int)) (h : ∀ i, i < l.length → 1 ≤ (l.getD i ([], 0)).2 ∧ (l.getD i ([], 0)).2 ≤ 1000) : ∀ k, k ≤ l.length → (k : Int) ≤ sumM (l.take k) ∧ sumM (l.take k) ≤ 1000 * (k : Int)
  | 0, _ => by simp [sumM]
  | k + 1, hk => by
    have h1 := sumM_take l h k (by omega)
    have h2 := h k (by omega)
    rw [take_getD l k (by omega), sumM_app]
    omega
theorem totM_bound (l : List (Bs × Int)) : 0 ≤ totM l ∧ totM l ≤ 7000 := by
  unfold totM
  split
  · rename_i hc
    simp only [chkM, Bool.and_eq_true, decide_eq_true_eq] at hc
    have h := sumM_take l (fun i hi => (okM_at l [] hc.2 i hi).2) l.length (by omega)
    rw [List.take_length] at h
    omega
  · omega
end Pl

namespace Pl
def quoM (l : List (Bs × Int)) : Int := if totM l = 0 then 0 else (2 * totM l).tdiv 3 + 1
def mostM (l : List (Bs × Int)) : Int := if totM l = 0 then 0 else (totM l - 1).tdiv 3
end Pl

end Go.Proofs.YtdddcncjmnekcaaGreatDoor

/- The power of those who are named: the program's. -/
set_option linter.unusedSimpArgs false
set_option linter.unusedVariables false
namespace Go.Proofs.YtdddcncjmnekcaaGreatDoor
open Go.RowKit Go.WideMaps Go.Maps Pl

theorem keyedS : Keyed Tryz.prog 9 := string_keyed Tryz.underlying9
theorem zeroI (w : World) : (zeroValue 3).run Tryz.prog w = .ok (.int .i64 0) w := by kernel_rfl

namespace Pl
/-- The power of those members that are named. -/
def sumOf (names : List Bs) : List (Bs × Int) → Int
  | [] => 0
  | x :: r => (if names.contains x.1 then x.2 else 0) + sumOf names r
theorem sumOf_app (names : List Bs) (a : List (Bs × Int)) (x : Bs × Int) : sumOf names (a ++ [x]) = sumOf names a + (if names.contains x.1 then x.2 else 0) := by
  induction a with
  | nil => simp [sumOf]
  | cons y r ih => simp only [List.cons_append, sumOf, ih]; omega
theorem sumOf_take (names : List Bs) (l : List (Bs × Int)) (h : ∀ i, i < l.length → 1 ≤ (l.getD i ([], 0)).2 ∧ (l.getD i ([], 0)).2 ≤ 1000) : ∀ k, k ≤ l.length → 0 ≤ sumOf names (l.take k) ∧ sumOf names (l.take k) ≤ 1000 * (k : Int)
  | 0, _ => by simp [sumOf]
  | k + 1, hk => by
    have h1 := sumOf_take names l h k (by omega)
    have h2 := h k (by omega)
    rw [take_getD l k (by omega), sumOf_app]
    split <;> omega
def ofM (l : List (Bs × Int)) (names : List Bs) : Int := if chkM l then sumOf names l else 0
end Pl

theorem ownsMap_keep {H : Type} {R : Value → Option (DataW H × List MemPlace)} {W w : World} {t : TypeId} {b n : Nat} {D : DataW H} (h : W.ownsMap Tryz.prog t R b n D) (hb : Below W.heap.size W w) : w.ownsMap Tryz.prog t R b n D := by
  obtain ⟨es, clock, h1, h2⟩ := h
  refine ⟨es, clock, (hb.block b ?_).trans h1, h2⟩
  rcases Nat.lt_or_ge b W.heap.size with hlt | hge
  · exact hlt
  · rw [Array.getElem?_eq_none hge] at h1; cases h1

end Go.Proofs.YtdddcncjmnekcaaGreatDoor

/- Walks of layer 2: a list out of a reader. -/
set_option linter.unusedSimpArgs false
set_option linter.unusedVariables false
namespace Go.Proofs.YtdddcncjmnekcaaGreatDoor
open Go.RowKit Pl

namespace Pl
/-- What is left to be told behind i texts. -/
theorem lGo_step (each : Int) (n : Nat) (s : Bs) (h : (tx s each).2.2 = 0) : lGo each (n + 1) s = ((tx s each).1 :: (lGo each n (tx s each).2.1).1, (lGo each n (tx s each).2.1).2) := by
  rw [lGo, if_neg (by simpa using h)]
theorem lGo_bad (each : Int) (n : Nat) (s : Bs) (h : (tx s each).2.2 ≠ 0) : (lGo each (n + 1) s).2.2 = (tx s each).2.2 := by
  rw [lGo, if_pos h]
end Pl

end Go.Proofs.YtdddcncjmnekcaaGreatDoor

/- slices.Sort, slices.Compact at []string on slices that the call made; what two lists have in common: the program's. -/
set_option linter.unusedSimpArgs false
set_option linter.unusedVariables false
namespace Go.Proofs.YtdddcncjmnekcaaGreatDoor
open Go.RowKit Go.WideMaps Go.Maps Go.Sort Pl

theorem sv_enc (l : List Bs) : sv l = l.map encStr := rfl

theorem sort_row (base : Nat) (v : Value) (l : List Bs) (hl : l.length < 4611686018427387904) (w : World) (hb : base ≤ w.heap.size) (h : SRow w base v l) :
    Calls Tryz.prog 49 #[v] w fun e w' => e = .returned (.tuple #[]) ∧ SRow w' base v (l.mergeSort fun x y => decide (x ≤ y)) ∧ Below base w w' := by
  by_cases hv : v = .slice none 0 0
  · subst hv
    have h0 : l = [] := by
      rcases h.cells with ⟨_, h⟩ | ⟨g, cap, h, _⟩
      · exact h
      · cases h
    subst h0
    refine (calls_of_every_depth fun D => AnyS.slices_Sort_string_none_alone laysSort D none 0 w).mono ?_
    rintro e w' ⟨rfl, rfl⟩
    exact ⟨rfl, by simpa using SRow.nil _ _, Below.refl _ _⟩
  · have h' : w.ownsRow base 9 1 v l.length (l.map encStr) := h
    obtain ⟨g, cap, rfl, h1, h2, h3, h4, h5, h6⟩ := Lib.holds_of_ownsRow h' hv
    refine (calls_of_every_depth fun D => AnyS.slices_Sort_string_alone laysSort D g 0 cap l w h6 h2 hl).mono ?_
    rintro e w' ⟨rfl, n, os, rfl⟩
    have hlen : (l.mergeSort fun x y => decide (x ≤ y)).length = l.length := List.length_mergeSort l
    rcases h'.2 with ⟨h0, _⟩ | ⟨g', cap', cur, hv', q1, q2, q3, q4, q5, q6⟩
    · cases h0
    · injection hv' with e1 _ e3
      injection e1 with e1
      injection e1 with e1 _ _
      subst e1 e3
      have hs := ownsRow_sorted (n := n) (os := os) (ts := l.mergeSort fun x y => decide (x ≤ y)) hlen q1 q2 q3 q4 q5
      refine ⟨rfl, ?_, grown_below (grownBy_sorted _) hb (fun k hk => by cases hk; exact q1)⟩
      unfold SRow
      rw [hlen]
      exact hs

theorem both_len {a b l : List Bs} (h : IsBoth a b l) : l.length ≤ b.length :=
  nodup_len l b (h.1.imp (fun {x y} h e => by subst e; exact absurd h (List.lt_irrefl _))) (fun x hx => ((h.2 x).1 hx).2)

theorem selP_take (a b : List Bs) (i : Nat) (hi : i < b.length) : selP a (b.take (i + 1)) = selP a (b.take i) ++ (if a.contains (b.getD i []) then [b.getD i []] else []) := by
  rw [takeS b i hi]
  unfold selP
  rw [List.filter_append]
  congr 1
  cases h : a.contains (b.getD i [])
  · rw [List.filter_cons_of_neg (by rw [h]; simp)]; simp
  · rw [List.filter_cons_of_pos (by rw [h])]; simp
theorem selP_len (a b : List Bs) : (selP a b).length ≤ b.length := List.length_filter_le _ _

end Go.Proofs.YtdddcncjmnekcaaGreatDoor

/- Slices of members that a call itself made: append, spoil; lists held against one another. -/
set_option linter.unusedSimpArgs false
set_option linter.unusedVariables false
namespace Go.Proofs.YtdddcncjmnekcaaGreatDoor
open Go.RowKit Pl

def mv : List (Bs × Int) → List Value
  | [] => []
  | x :: r => .string ⟨List.toArray (x.1)⟩ :: .int .i64 (x.2) :: mv r
theorem mv_len (l : List (Bs × Int)) : (mv l).length = l.length * 2 := by
  induction l with
  | nil => rfl
  | cons x r ih => simp only [mv, List.length_cons, ih]; omega
theorem mv_app (a b : List (Bs × Int)) : mv (a ++ b) = mv a ++ mv b := by
  induction a with
  | nil => rfl
  | cons x r ih => simp [mv, ih]
theorem mv_at : ∀ (l : List (Bs × Int)) (i : Nat), i < l.length → (mv l)[i * 2]? = some (.string ⟨List.toArray ((l.getD i ([], 0)).1)⟩) ∧ (mv l)[i * 2 + 1]? = some (.int .i64 ((l.getD i ([], 0)).2))
  | x :: r, 0, _ => ⟨rfl, rfl⟩
  | x :: r, i + 1, hi => by
    have h := mv_at r i (by simpa using hi)
    rw [show (i + 1) * 2 = i * 2 + 1 + 1 from by omega]
    simpa [mv] using h
theorem mone : ∀ (l : List (Bs × Int)), ∀ u ∈ mv l, u.oneCell' = true
  | [], u, h => by simp [mv] at h
  | x :: r, u, h => by
    simp only [mv, List.mem_cons] at h
    rcases h with rfl | rfl | h
    · rfl
    · rfl
    · exact mone r u h

theorem msrc1 (w : World) (n : Bs) (p : Int) (t : TypeId) : MSrc (w.alloc (.cells #[.string ⟨List.toArray (n)⟩, .int .i64 (p)] t)) w.heap.size 0 [(n, p)] := by
  intro i hi
  have : i = 0 := by simp at hi; omega
  subst this
  exact ⟨by simp, by simp⟩
theorem msrc_news {w : World} {g o : Nat} {l : List (Bs × Int)} (h : MSrc w g o l) : ∀ j u, (mv l)[j]? = some u → w.cell? ((⟨g, o, none⟩ : Addr).add j) = some u := by
  intro j u hj
  have hjl : j < l.length * 2 := by
    rcases Nat.lt_or_ge j (l.length * 2) with hlt | hge
    · exact hlt
    · rw [List.getElem?_eq_none (by rw [mv_len]; exact hge)] at hj; cases hj
  have hadd : (⟨g, o, none⟩ : Addr).add j = ⟨g, o + j, none⟩ := by unfold Addr.add; split <;> simp_all
  rw [hadd]
  obtain ⟨i, hi | hi⟩ : ∃ i, j = i * 2 ∨ j = i * 2 + 1 := ⟨j / 2, by omega⟩
  · subst hi
    exact (h i (by omega)).1.trans (((mv_at l i (by omega)).1).symm.trans hj)
  · subst hi
    have := (h i (by omega)).2
    rw [Nat.add_assoc] at this
    exact this.trans (((mv_at l i (by omega)).2).symm.trans hj)

section
variable {ops : Array Oper} {o : Oper} {a : Act} {w : World} {Q : Exit → Act → World → Prop}

end

end Go.Proofs.YtdddcncjmnekcaaGreatDoor

/- The table of signatures: New, Sign, Signed. -/
set_option linter.unusedSimpArgs false
set_option linter.unusedVariables false
namespace Go.Proofs.YtdddcncjmnekcaaGreatDoor
open Go.RowKit Go.WideMaps Go.Maps Pl

theorem laidG : laidOutB Tryz.prog = true := by kernel_rfl
theorem typesG : ∃ n, Tryz.prog.types.size = n + 1 + 1 := ⟨Tryz.prog.types.size - 2, by kernel_rfl⟩

/-- The key of a signer and a mark. -/
def kG (who mark : Bs) : Lit := .string (keyBytes [.string who, .string mark, .bool false])
abbrev Sg := Bs × Bs × Bool
def keyOfS (x : Sg) : Bs × Bs := (x.1, x.2.1)
/-- Which place a signer and a mark have; the last first. -/
def idxD : List (Bs × Bs) → DataW Unit
  | [] => .map []
  | x :: r => (idxD r).put (kG x.1 x.2) (.lit (.int .i64 (r.length : Int)))
theorem idxD_map : ∀ r, IsMap (idxD r)
  | [] => ⟨[], rfl⟩
  | x :: r => (idxD_map r).put _ _
def Short (x : Bs × Bs) : Prop := x.1.length ≤ maxLen ∧ x.2.length ≤ maxLen
/-- The place. -/
def idxOf : List (Bs × Bs) → Bs × Bs → Nat
  | [], _ => 0
  | y :: r, x => if x = y then r.length else idxOf r x
/-! rows of signatures -/
def gv : List Sg → List Value
  | [] => []
  | x :: r => .string ⟨List.toArray (x.1)⟩ :: .string ⟨List.toArray (x.2.1)⟩ :: .bool x.2.2 :: gv r
theorem gv_len (l : List Sg) : (gv l).length = l.length * 3 := by
  induction l with
  | nil => rfl
  | cons x r ih => simp only [gv, List.length_cons, ih]; omega
theorem gv_app (a b : List Sg) : gv (a ++ b) = gv a ++ gv b := by
  induction a with
  | nil => rfl
  | cons x r ih => simp [gv, ih]
abbrev sg0' : Sg := ([], [], false)
theorem gv_at : ∀ (l : List Sg) (i : Nat), i < l.length → (gv l)[i * 3]? = some (.string ⟨List.toArray ((l.getD i sg0').1)⟩) ∧ (gv l)[i * 3 + 1]? = some (.string ⟨List.toArray ((l.getD i sg0').2.1)⟩) ∧ (gv l)[i * 3 + 2]? = some (.bool (l.getD i sg0').2.2)
  | x :: r, 0, _ => ⟨rfl, rfl, rfl⟩
  | x :: r, i + 1, hi => by
    have h := gv_at r i (by simpa using hi)
    rw [show (i + 1) * 3 = i * 3 + 1 + 1 + 1 from by omega]
    simpa [gv] using h
theorem gone : ∀ (l : List Sg), ∀ u ∈ gv l, u.oneCell' = true
  | [], u, h => by simp [gv] at h
  | x :: r, u, h => by
    simp only [gv, List.mem_cons] at h
    rcases h with rfl | rfl | rfl | h
    · rfl
    · rfl
    · rfl
    · exact gone r u h
def GSrc (w : World) (g o : Nat) (l : List Sg) : Prop := ∀ i, i < l.length → w.cell? ⟨g, o + i * 3, none⟩ = some (.string ⟨List.toArray ((l.getD i sg0').1)⟩) ∧ w.cell? ⟨g, o + i * 3 + 1, none⟩ = some (.string ⟨List.toArray ((l.getD i sg0').2.1)⟩) ∧ w.cell? ⟨g, o + i * 3 + 2, none⟩ = some (.bool (l.getD i sg0').2.2)
theorem gsrc1 (w : World) (a b : Bs) (c : Bool) (t : TypeId) : GSrc (w.alloc (.cells #[.string ⟨List.toArray (a)⟩, .string ⟨List.toArray (b)⟩, .bool c] t)) w.heap.size 0 [(a, b, c)] := by
  intro i hi
  have : i = 0 := by simp at hi; omega
  subst this
  exact ⟨by simp, by simp, by simp⟩
theorem gsrc_news {w : World} {g o : Nat} {l : List Sg} (h : GSrc w g o l) : ∀ j u, (gv l)[j]? = some u → w.cell? ((⟨g, o, none⟩ : Addr).add j) = some u := by
  intro j u hj
  have hjl : j < l.length * 3 := by
    rcases Nat.lt_or_ge j (l.length * 3) with hlt | hge
    · exact hlt
    · rw [List.getElem?_eq_none (by rw [gv_len]; exact hge)] at hj; cases hj
  have hadd : (⟨g, o, none⟩ : Addr).add j = ⟨g, o + j, none⟩ := by unfold Addr.add; split <;> simp_all
  rw [hadd]
  obtain ⟨i, hi | hi | hi⟩ : ∃ i, j = i * 3 ∨ j = i * 3 + 1 ∨ j = i * 3 + 2 := ⟨j / 3, by omega⟩
  · subst hi
    exact (h i (by omega)).1.trans (((gv_at l i (by omega)).1).symm.trans hj)
  · subst hi
    have := (h i (by omega)).2.1
    rw [Nat.add_assoc] at this
    exact this.trans (((gv_at l i (by omega)).2.1).symm.trans hj)
  · subst hi
    have := (h i (by omega)).2.2
    rw [Nat.add_assoc] at this
    exact this.trans (((gv_at l i (by omega)).2.2).symm.trans hj)
section
variable {ops : Array Oper} {o : Oper} {a : Act} {w : World} {Q : Exit → Act → World → Prop}
end

section
variable {ops : Array Oper} {o : Oper} {a : Act} {w : World} {Q : Exit → Act → World → Prop}
end

theorem short_of {a b : Bs} (h1 : a.length ≤ 1000) (h2 : b.length ≤ 1000) : Short (a, b) := ⟨by unfold maxLen; simp; omega, by unfold maxLen; simp; omega⟩

/-- Is it there? -/
def isIn (L : List Sg) (who mark : Bs) : Bool := decide ((who, mark) ∈ L.map keyOfS)
theorem wp_mapUpd {P : Program} {o : Oper} {a : Act} {w : World} {K : Act → World → Prop} {Q : Exit → Act → World → Prop} (m x v : Operand) (t : TypeId) (hop : o.op = Op.mapUpdate t m x v)
    (k e : TypeId) (Kd : Keyed P k) (ht : P.underlying t = some (.map k e)) (R : Value → Option (DataW Unit × List MemPlace)) (b n : Nat) (D : DataW Unit)
    (hm : a.eval m = .map (some b)) (hown : w.ownsMap P k R b n D) (hn : n < maxLen) (key val : Value) (kl : Lit) (hx : a.eval x = key) (hv : a.eval v = val) (hkey : keyOf P k key = some kl)
    (d : DataW Unit) (ps : List MemPlace) (hval : R val = some (d, ps))
    (hK : ∀ w', w'.ownsMap P k R b (n + 1) (D.put kl d) → w.grownBy w' (some b) → K (a.put o.dst undef) w') : o.wp P a w K Q := by
  obtain ⟨w', hrun, r1, r2⟩ := hown.update Kd ht hn hkey hval
  unfold Oper.wp
  simp [execOp, hop, hm, hx, hv, hrun, Result.andThen]
  exact hK w' r1 r2

theorem ownsMap_mod {H : Type} {R : Value → Option (DataW H × List MemPlace)} {W w : World} {t : TypeId} {b n : Nat} {D : DataW H} {l : List Nat} (h : W.ownsMap Tryz.prog t R b n D) (hb : Mod l W w) (hn : b ∉ l) : w.ownsMap Tryz.prog t R b n D := by
  obtain ⟨es, clock, h1, h2⟩ := h
  refine ⟨es, clock, (hb.block b ?_ hn).trans h1, h2⟩
  rcases Nat.lt_or_ge b W.heap.size with hlt | hge
  · exact hlt
  · rw [Array.getElem?_eq_none hge] at h1; cases h1

theorem ownsMap_at {H : Type} {R : Value → Option (DataW H × List MemPlace)} {W w : World} {t : TypeId} {b n : Nat} {D : DataW H} (h : W.ownsMap Tryz.prog t R b n D) (hb : w.heap[b]? = W.heap[b]?) : w.ownsMap Tryz.prog t R b n D := by
  obtain ⟨es, clock, h1, h2⟩ := h
  exact ⟨es, clock, hb.trans h1, h2⟩

end Go.Proofs.YtdddcncjmnekcaaGreatDoor
