/- BothP, Sort, MWorks, Over. -/
import Derived.Lib.SlicesCompact
import Derived.Sort.OwnSorted
import Derived.Sort.EveryDepth
import Derived.Lib.OwnBridge
import Derived.Test.YtbnjhfkmdejeaaaDoorMg2
import Derived.Test.YtbnjhfkmdejeaaaDoorMg6
import Derived.Test.YtbnjhfkmdejeaaaDoorMg7
import Derived.Test.YtbnjhfkmdejeaaaDoorMg11
import Derived.Test.YtbnjhfkmdejeaaaDoorMg12
set_option linter.unnecessarySimpa false

/- Plain: what two lists have in common, in order, none twice. -/
set_option linter.unusedSimpArgs false
set_option linter.unusedVariables false
namespace Go.Proofs.YtbnjhfkmdejeaaaDoor
namespace Pl

/-- l has what is in both, in order, none twice. -/
def IsBoth (a b l : List Bs) : Prop := l.Pairwise (fun x y => x < y) ∧ ∀ x, x ∈ l ↔ x ∈ a ∧ x ∈ b
theorem sorted_uniq : ∀ (l m : List Bs), l.Pairwise (fun x y => x < y) → m.Pairwise (fun x y => x < y) → (∀ x, x ∈ l ↔ x ∈ m) → l = m
  | [], [], _, _, _ => rfl
  | [], y :: m, _, _, h => absurd ((h y).2 (by simp)) (by simp)
  | x :: l, [], _, _, h => absurd ((h x).1 (by simp)) (by simp)
  | x :: l, y :: m, hl, hm, h => by
    rw [List.pairwise_cons] at hl hm
    have hxy : x = y := by
      rcases List.mem_cons.1 ((h x).1 (by simp)) with e | h1
      · exact e
      · rcases List.mem_cons.1 ((h y).2 (by simp)) with e | h2
        · exact e.symm
        · exact absurd (List.lt_trans (hl.1 y h2) (hm.1 x h1)) (List.lt_irrefl x)
    subst hxy
    have ht : l = m := sorted_uniq l m hl.2 hm.2 (fun z => by
      constructor
      · intro hz
        rcases List.mem_cons.1 ((h z).1 (by simp [hz])) with e | h1
        · subst e; exact absurd (hl.1 z hz) (List.lt_irrefl z)
        · exact h1
      · intro hz
        rcases List.mem_cons.1 ((h z).2 (by simp [hz])) with e | h1
        · subst e; exact absurd (hm.1 z hz) (List.lt_irrefl z)
        · exact h1)
    rw [ht]
theorem isBoth_uniq {a b l m : List Bs} (h : IsBoth a b l) (k : IsBoth a b m) : l = m :=
  sorted_uniq l m h.1 k.1 (fun x => (h.2 x).trans (k.2 x).symm)

theorem upTo_mem (d : Array Bs) : ∀ m, m ≤ d.size → ∀ x, x ∈ Lib.compactUpTo d m ↔ ∃ j, j < m ∧ d[j]! = x
  | 0, _, x => by simp [Lib.compactUpTo]
  | m + 1, hm, x => by
    rw [Lib.compactUpTo_succ, List.mem_append, upTo_mem d m (by omega) x]
    constructor
    · rintro (⟨j, hj, e⟩ | h)
      · exact ⟨j, by omega, e⟩
      · split at h
        · simp at h; exact ⟨m, by omega, h.symm⟩
        · simp at h
    · rintro ⟨j, hj, e⟩
      rcases Nat.lt_or_eq_of_le (Nat.le_of_lt_succ hj) with h | h
      · exact .inl ⟨j, h, e⟩
      · subst h
        by_cases hk : Lib.keeps d j = true
        · exact .inr (by rw [if_pos hk]; simp [e])
        · unfold Lib.keeps at hk
          simp only [decide_eq_true_eq, not_or, ne_eq, Classical.not_not] at hk
          exact .inl ⟨j - 1, by omega, hk.2.symm.trans e⟩
theorem upTo_sorted (d : Array Bs) (hd : ∀ i j, i ≤ j → j < d.size → d[i]! ≤ d[j]!) : ∀ m, m ≤ d.size → (Lib.compactUpTo d m).Pairwise (fun x y => x < y)
  | 0, _ => by simp [Lib.compactUpTo]
  | m + 1, hm => by
    rw [Lib.compactUpTo_succ, List.pairwise_append]
    refine ⟨upTo_sorted d hd m (by omega), by split <;> simp, fun x hx y hy => ?_⟩
    split at hy
    · rename_i hk
      simp at hy
      subst hy
      obtain ⟨j, hj, rfl⟩ := (upTo_mem d m (by omega) x).1 hx
      unfold Lib.keeps at hk
      simp only [decide_eq_true_eq] at hk
      have hne : d[m]! ≠ d[m - 1]! := by
        rcases hk with h | h
        · omega
        · exact h
      have h1 := hd j (m - 1) (by omega) (by omega)
      have h2 := hd (m - 1) m (by omega) (by omega)
      refine List.lt_of_le_of_lt h1 ?_
      rcases Classical.em (d[m - 1]! < d[m]!) with h | h
      · exact h
      · exact absurd (List.le_antisymm (List.not_lt.1 h) h2) hne
    · simp at hy
theorem compact_sorted (zs : List Bs) (h : zs.Pairwise (fun x y => x ≤ y)) : (Lib.compact zs).Pairwise (fun x y => x < y) := by
  unfold Lib.compact
  refine upTo_sorted zs.toArray (fun i j hij hj => ?_) zs.length (by simp)
  simp at hj
  rw [getElem!_pos _ _ (by simp; omega), getElem!_pos _ _ (by simpa using hj)]
  simp only [List.getElem_toArray]
  rcases Nat.lt_or_eq_of_le hij with hlt | rfl
  · exact List.pairwise_iff_getElem.1 h i j (by omega) hj hlt
  · exact List.le_refl _
theorem compact_mem (zs : List Bs) (x : Bs) : x ∈ Lib.compact zs ↔ x ∈ zs := by
  unfold Lib.compact
  rw [upTo_mem zs.toArray zs.length (by simp)]
  constructor
  · rintro ⟨j, hj, rfl⟩
    rw [getElem!_pos _ _ (by simpa using hj)]
    simp
  · intro hx
    obtain ⟨j, hj, rfl⟩ := List.getElem_of_mem hx
    exact ⟨j, hj, by rw [getElem!_pos _ _ (by simpa using hj)]; simp⟩
/-- The program's way. -/
def selP (a b : List Bs) : List Bs := b.filter fun x => a.contains x
def bothP (a b : List Bs) : List Bs := Lib.compact ((selP a b).mergeSort fun x y => decide (x ≤ y))
theorem bothP_is (a b : List Bs) : IsBoth a b (bothP a b) := by
  constructor
  · refine compact_sorted _ ?_
    have h := List.pairwise_mergeSort (le := fun x y : Bs => decide (x ≤ y)) (fun x y z h k => by simp only [decide_eq_true_eq] at *; exact List.le_trans h k) (fun x y => by simp only [Bool.or_eq_true, decide_eq_true_eq]; exact List.le_total x y) (selP a b)
    exact h.imp (fun {x y} h => by simpa using h)
  · intro x
    unfold bothP
    rw [compact_mem, (List.mergeSort_perm (selP a b) _).mem_iff]
    unfold selP
    rw [List.mem_filter]
    simp only [List.contains_iff_mem]
    exact And.comm

/-! the document's way: the least one that is left, again and again -/
theorem nodup_len : ∀ (l a : List Bs), l.Nodup → (∀ x ∈ l, x ∈ a) → l.length ≤ a.length
  | [], _, _, _ => by simp
  | x :: l, a, hn, h => by
    rw [List.nodup_cons] at hn
    have hx : x ∈ a := h x (by simp)
    have ih := nodup_len l (a.erase x) hn.2 (fun y hy => (List.mem_erase_of_ne (fun e => hn.1 (by rw [← e]; exact hy))).2 (h y (by simp [hy])))
    rw [List.length_erase_of_mem hx] at ih
    have : 0 < a.length := List.length_pos_of_mem hx
    simp only [List.length_cons]
    omega
def cand (b out : List Bs) (x : Bs) : Bool := b.contains x && !out.contains x
def LeastAt (a b out : List Bs) (i : Nat) (at_ : Int) : Prop :=
  (at_ = -1 ∧ ∀ j, j < i → cand b out (a.getD j []) = false) ∨ ∃ j : Nat, j < i ∧ at_ = j ∧ cand b out (a.getD j []) = true ∧ ∀ k, k < i → cand b out (a.getD k []) = true → a.getD j [] ≤ a.getD k []
structure Sel (a b out : List Bs) (k : Nat) : Prop where
  sorted : out.Pairwise (fun x y => x < y)
  sub : ∀ x ∈ out, x ∈ a ∧ x ∈ b
  above : ∀ x ∈ a, x ∈ b → x ∉ out → ∀ y ∈ out, y < x
  full : out.length = k ∨ ∀ x ∈ a, x ∈ b → x ∈ out
theorem Sel.zero (a b : List Bs) : Sel a b [] 0 := ⟨List.Pairwise.nil, by simp, by simp, .inl rfl⟩
theorem getD_mem (a : List Bs) (j : Nat) (hj : j < a.length) : a.getD j [] ∈ a := by
  rw [List.getD_eq_getElem?_getD, List.getElem?_eq_getElem hj]
  exact List.getElem_mem hj
theorem mem_getD' (a : List Bs) (x : Bs) (hx : x ∈ a) : ∃ j, j < a.length ∧ a.getD j [] = x := by
  obtain ⟨j, hj, rfl⟩ := List.getElem_of_mem hx
  exact ⟨j, hj, by rw [List.getD_eq_getElem?_getD, List.getElem?_eq_getElem hj]; rfl⟩
theorem cand_true {b out : List Bs} {x : Bs} : cand b out x = true ↔ x ∈ b ∧ x ∉ out := by
  simp [cand]
theorem Sel.none {a b out : List Bs} {k : Nat} (h : Sel a b out k) (hl : LeastAt a b out a.length (-1)) : Sel a b out (k + 1) := by
  refine ⟨h.sorted, h.sub, h.above, .inr (fun x hx hb => ?_)⟩
  rcases hl with ⟨_, hl⟩ | ⟨j, _, e, _⟩
  · obtain ⟨j, hj, rfl⟩ := mem_getD' a x hx
    have := hl j hj
    rcases Classical.em (a.getD j [] ∈ out) with h1 | h1
    · exact h1
    · rw [cand_true.2 ⟨hb, h1⟩] at this
      exact absurd this (by simp)
  · omega
theorem Sel.some {a b out : List Bs} {k j : Nat} (h : Sel a b out k) (hj : j < a.length) (hc : cand b out (a.getD j []) = true) (hl : ∀ k, k < a.length → cand b out (a.getD k []) = true → a.getD j [] ≤ a.getD k []) : Sel a b (out ++ [a.getD j []]) (k + 1) := by
  obtain ⟨hb, hn⟩ := cand_true.1 hc
  have hm := getD_mem a j hj
  refine ⟨?_, ?_, ?_, ?_⟩
  · rw [List.pairwise_append]
    refine ⟨h.sorted, by simp, fun x hx y hy => ?_⟩
    simp at hy
    subst hy
    exact h.above _ hm hb hn x hx
  · intro x hx
    rcases List.mem_append.1 hx with hx | hx
    · exact h.sub x hx
    · simp at hx; subst hx; exact ⟨hm, hb⟩
  · intro x hx hxb hxo y hy
    have hxo' : x ∉ out := fun h => hxo (List.mem_append.2 (.inl h))
    rcases List.mem_append.1 hy with hy | hy
    · exact h.above x hx hxb hxo' y hy
    · simp at hy
      subst hy
      obtain ⟨i, hi, rfl⟩ := mem_getD' a x hx
      have h1 := hl i hi (cand_true.2 ⟨hxb, hxo'⟩)
      rcases Classical.em (a.getD j [] < a.getD i []) with h2 | h2
      · exact h2
      · have he := List.le_antisymm h1 (List.not_lt.1 h2)
        exact absurd (List.mem_append.2 (.inr (by rw [he]; exact List.mem_singleton.2 rfl))) hxo
  · rcases h.full with h1 | h1
    · exact .inl (by simp [h1])
    · exact absurd (h1 _ hm hb) hn
theorem Sel.is {a b out : List Bs} (h : Sel a b out a.length) : IsBoth a b out := by
  refine ⟨h.sorted, fun x => ⟨h.sub x, fun ⟨hx, hb⟩ => ?_⟩⟩
  rcases h.full with h1 | h1
  · rcases Classical.em (x ∈ out) with h2 | h2
    · exact h2
    · have hn : (x :: out).Nodup := List.nodup_cons.2 ⟨h2, h.sorted.imp (fun {a b} h e => by subst e; exact absurd h (List.lt_irrefl _))⟩
      have := nodup_len (x :: out) a hn (fun y hy => by
        rcases List.mem_cons.1 hy with rfl | hy
        · exact hx
        · exact (h.sub y hy).1)
      simp only [List.length_cons] at this
      omega
  · exact h1 x hx hb
end Pl
end Go.Proofs.YtbnjhfkmdejeaaaDoor

/- slices.Sort, slices.Compact at []string on slices that the call made; what two lists have in common: the program's. -/
set_option linter.unusedSimpArgs false
set_option linter.unusedVariables false
namespace Go.Proofs.YtbnjhfkmdejeaaaDoor
open Go.RowKit Go.WideMaps Go.Maps Go.Sort Pl

theorem sv_enc (l : List Bs) : sv l = l.map encStr := rfl

theorem sort_row (base : Nat) (v : Value) (l : List Bs) (hl : l.length < 4611686018427387904) (w : World) (hb : base ≤ w.heap.size) (h : SRow w base v l) :
    Calls Tryd.prog 56 #[v] w fun e w' => e = .returned (.tuple #[]) ∧ SRow w' base v (l.mergeSort fun x y => decide (x ≤ y)) ∧ Below base w w' := by
  by_cases hv : v = .slice none 0 0
  · subst hv
    have h0 : l = [] := by
      rcases h.cells with ⟨_, h⟩ | ⟨g, cap, h, _⟩
      · exact h
      · cases h
    subst h0
    refine (calls_of_every_depth fun D => AnyS.slices_Sort_string_none_alone laysSort D none 0 w).mono ?_
    rintro e w' ⟨rfl, rfl⟩
    exact ⟨rfl, by simpa using SRow.nil _ _, Below.refl _ _⟩
  · have h' : w.ownsRow base 9 1 v l.length (l.map encStr) := h
    obtain ⟨g, cap, rfl, h1, h2, h3, h4, h5, h6⟩ := Lib.holds_of_ownsRow h' hv
    refine (calls_of_every_depth fun D => AnyS.slices_Sort_string_alone laysSort D g 0 cap l w h6 h2 hl).mono ?_
    rintro e w' ⟨rfl, n, os, rfl⟩
    have hlen : (l.mergeSort fun x y => decide (x ≤ y)).length = l.length := List.length_mergeSort l
    rcases h'.2 with ⟨h0, _⟩ | ⟨g', cap', cur, hv', q1, q2, q3, q4, q5, q6⟩
    · cases h0
    · injection hv' with e1 _ e3
      injection e1 with e1
      injection e1 with e1 _ _
      subst e1 e3
      have hs := ownsRow_sorted (n := n) (os := os) (ts := l.mergeSort fun x y => decide (x ≤ y)) hlen q1 q2 q3 q4 q5
      refine ⟨rfl, ?_, grown_below (grownBy_sorted _) hb (fun k hk => by cases hk; exact q1)⟩
      unfold SRow
      rw [hlen]
      exact hs

theorem compact_row (base : Nat) (v : Value) (l : List Bs) (w : World) (hb : base ≤ w.heap.size) (h : SRow w base v l) :
    Calls Tryd.prog 57 #[v] w fun e w' => ∃ v', e = .returned v' ∧ SRow w' base v' (Lib.compact l) ∧ Below base w w' := by
  by_cases hv : v = .slice none 0 0
  · subst hv
    have h0 : l = [] := by
      rcases h.cells with ⟨_, h⟩ | ⟨g, cap, h, _⟩
      · exact h
      · cases h
    subst h0
    refine (calls_of_every_depth fun D => AnyS.slices_Compact_string_empty_in laysCompact D none 0 w).mono ?_
    rintro e w' ⟨rfl, rfl⟩
    exact ⟨_, rfl, by simpa [Lib.compact, Lib.compactUpTo] using SRow.nil _ _, Below.refl _ _⟩
  · have h' : w.ownsRow base 9 1 v l.length (l.map encStr) := h
    obtain ⟨g, cap, rfl, h1, h2, h3, h4, h5, h6⟩ := Lib.holds_of_ownsRow h' hv
    refine (calls_of_every_depth fun D => AnyS.slices_Compact_string_in laysCompact D g 0 cap l w h6 (by unfold maxLen at h4; omega) h3).mono ?_
    rintro e w' ⟨rfl, q, rfl⟩
    have hle := Lib.compact_length_le l
    have hc := Lib.ownsRow_putRow (q := q) (k := (Lib.compact l).length) (ys := Lib.compact l ++ List.replicate (l.length - (Lib.compact l).length) []) h' (by simp; omega) (by omega)
    rw [List.take_left] at hc
    exact ⟨_, rfl, hc, Lib.below_putRow (Below.refl _ _) h1⟩

theorem both_len {a b l : List Bs} (h : IsBoth a b l) : l.length ≤ b.length :=
  nodup_len l b (h.1.imp (fun {x y} h e => by subst e; exact absurd h (List.lt_irrefl _))) (fun x hx => ((h.2 x).1 hx).2)

theorem selP_take (a b : List Bs) (i : Nat) (hi : i < b.length) : selP a (b.take (i + 1)) = selP a (b.take i) ++ (if a.contains (b.getD i []) then [b.getD i []] else []) := by
  rw [takeS b i hi]
  unfold selP
  rw [List.filter_append]
  congr 1
  cases h : a.contains (b.getD i [])
  · rw [List.filter_cons_of_neg (by rw [h]; simp)]; simp
  · rw [List.filter_cons_of_pos (by rw [h])]; simp
theorem selP_len (a b : List Bs) : (selP a b).length ≤ b.length := List.length_filter_le _ _

set_option maxRecDepth 100000 in
set_option maxHeartbeats 1000000 in
theorem mboth_any (u v : Value) (a b : List Bs) (ha : a.length ≤ 1000) (hb0 : b.length ≤ 1000) (hal : ∀ i, i < a.length → (a.getD i []).length ≤ maxLen) (hbl : ∀ i, i < b.length → (b.getD i []).length ≤ maxLen) (w : World) (hu : SS w u a) (hv : SS w v b) :
    Calls Tryd.prog 27 #[u, v] w fun e w' => ∃ x, e = .returned x ∧ SRow w' w.heap.size x (bothP a b) ∧ Below w.heap.size w w' := by
  have hmm := @run_makeMap Tryd.prog
  obtain ⟨pa, ca, rfl⟩ := hu.form
  obtain ⟨pb, cb, rfl⟩ := hv.form
  have HU := Lib.hid hu
  have HV := Lib.hid hv
  clear hu hv
  go_enter Tryd.func27, Tryd.ntmps27
  go_wp2_with fail
  go_loopw [14] (fun s14 wr => ∃ i : Nat, i ≤ a.length ∧ s14 = .int .i64 i ∧ wr.ownsMap Tryd.prog 9 (plainElem Tryd.prog 3) w.heap.size i (cntD (a.take i).reverse) ∧ Below w.heap.size w wr) (fun s14 _ => a.length - (intOf s14).toNat)
  case atStart => exact ⟨0, by omega, rfl, World.ownsMap_made _ _ _ _, (Below.refl _ _).alloc (Nat.le_refl _) _⟩
  case round =>
    obtain ⟨i, hi, rfl, hown, hbm⟩ := hrel
    by_cases hlt : i < a.length
    · obtain ⟨g, off, rfl, c1⟩ := (HU.out.keep hbm).at i hlt
      have hnx : cntD (a.take (i + 1)).reverse = (cntD (a.take i).reverse).put (.string (a.getD i [])) (.lit (.int .i64 ((((a.take i).reverse.count (a.getD i []) + 1 : Nat)) : Int))) := by
        rw [List.take_succ_eq_append_getElem hlt, List.reverse_append]
        simp [cntD, List.getD, List.getElem?_eq_getElem hlt]
      have hkey : keyOf Tryd.prog 9 (.string ⟨List.toArray (a.getD i [])⟩) = some (.string (a.getD i [])) := keyOf_string_mk Tryd.underlying9 (by simpa [ByteArray.size] using hal i hlt)
      generalize a.getD i [] = n at *
      obtain ⟨k, hrun, hat, _⟩ := hown.lookup_int keyedS Tryd.underlying70 Tryd.underlying3 (zeroI _) hkey
      have hkc : k = ((a.take i).reverse.count n : Nat) := by
        rw [cntD_at] at hat
        injection hat with hat
        injection hat with _ hat
        exact hat.symm
      have hcl : (a.take i).reverse.count n ≤ i := Nat.le_trans (List.count_le_length) (by simp; omega)
      have q1 : IntKind.i64.wrap (k + 1) = k + 1 := IntWalk.i64_in _ (by omega)
      have hnx2 : cntD (a.take (i + 1)).reverse = (cntD (a.take i).reverse).put (.string n) (.lit (.int .i64 (k + 1))) := by rw [hnx, hkc]; rfl
      have hwf : (Lit.int .i64 (k + 1)).wf = true := by have h := wrap64_wf (k + 1); rw [← IntWalk.i64_left, q1] at h; exact h
      clear hnx hat hkc HU HV
      go_wp2_with (first
        | (at_mapUpdate; refine wpList_mapUpdate_own _ rfl _ _ _ 70 rfl 9 3 keyedS Tryd.underlying70 _ w.heap.size i _ rfl hown (by unfold maxLen; omega) _ _ _ rfl rfl hkey _ [] (plainElem_int Tryd.underlying3 hwf) ?_)
        | go_in)
      intro w2 hown2 hgrow
      have R1 := hnx2.symm ▸ hown2
      have R2 := hbm.grown hgrow hbm.size (fun j hj => by cases hj; exact Nat.le_refl _)
      clear hown2 hgrow hown hrun
      go_wp2_with fail
      exact ⟨⟨i + 1, by omega, by go_num, R1, R2⟩, by simp [intOf]; omega⟩
    · obtain rfl : i = a.length := by omega
      obtain ⟨wq, h⟩ := Below.nm hbm
      subst h
      rw [List.take_length] at hown
      have hqs := hbm.size
      go_wp2_with fail
      go_loopw [8, 25] (fun s8 s25 wr => ∃ j : Nat, j ≤ b.length ∧ s25 = .int .i64 j ∧ SRow wr wq.heap.size s8 (selP a (b.take j)) ∧ Below wq.heap.size wq wr) (fun _ s25 _ => b.length - (intOf s25).toNat)
      case atStart => exact ⟨0, by omega, rfl, by simpa [selP] using SRow.nil _ _, Below.refl _ _⟩
      case round =>
        obtain ⟨j, hj, rfl, hS, hbj⟩ := hrel
        obtain ⟨wr, h⟩ := Below.nm hbj
        subst h
        have hbr := hbm.trans (hbj.mono hqs)
        by_cases hlt : j < b.length
        · obtain ⟨g, off, rfl, c1⟩ := (HV.out.keep hbr).at j hlt
          have hnx := selP_take a b j hlt
          have hsl := selP_len a (b.take j)
          rw [List.length_take] at hsl
          have hn6 := hbl j hlt
          generalize hx : b.getD j [] = n at *
          have HX := Lib.hid hx
          have HNX := Lib.hid hnx
          clear hx hnx
          generalize selP a (b.take j) = ns at *
          have hown2 := ownsMap_keep hown hbj
          have hkey : keyOf Tryd.prog 9 (.string ⟨List.toArray (n)⟩) = some (.string n) := keyOf_string_mk Tryd.underlying9 (by simpa [ByteArray.size] using hn6)
          obtain ⟨k, hrun, hat, _⟩ := hown2.lookup_int keyedS Tryd.underlying70 Tryd.underlying3 (zeroI _) hkey
          have hkc : k = (a.count n : Nat) := by
            rw [cntD_at, List.count_reverse] at hat
            injection hat with hat
            injection hat with _ hat
            exact hat.symm
          have hrs := hbj.size
          clear hat hown2
          cases hin : a.contains n
          · have HN2 : Hid (selP a (b.take (j + 1)) = ns) := Lib.hid (by rw [HNX.out, hin]; simp)
            have hk0 : decide ((0 : Int) < k) = false := by
              have : a.count n = 0 := List.count_eq_zero.2 (by simpa using hin)
              rw [hkc, this]; rfl
            clear hkc HNX hin
            go_wp2_with fail
            exact ⟨⟨j + 1, by omega, by go_num, by rw [HN2.out]; exact hS, hbj⟩, by simp [intOf]; omega⟩
          · have HN2 : Hid (selP a (b.take (j + 1)) = ns ++ [n]) := Lib.hid (by rw [HNX.out, hin]; simp)
            have hk0 : decide ((0 : Int) < k) = true := by
              have : 0 < a.count n := List.count_pos_iff.2 (by simpa using hin)
              rw [hkc, decide_eq_true_iff]; omega
            clear hkc HNX hin
            go_wp2_with (first
              | (at_builtin; refine wpList_appS rfl (.tmp 33) (.tmp 35) rfl wq.heap.size _ ns rfl (hS.alloc _) wr.heap.size 0 1 1 [n] rfl rfl (ssrc1 _ _ _) (by simp; omega) (by simp; omega) ?_; rintro v8 w8 hS8 hb8)
              | fail)
            exact ⟨⟨j + 1, by omega, by go_num, by rw [HN2.out]; exact hS8, (Below.allocS hbj (.cells #[.string ⟨List.toArray (n)⟩] 9)).trans hb8⟩, by simp [intOf]; omega⟩
        · obtain rfl : j = b.length := by omega
          rw [List.take_length] at hS
          have hsl := selP_len a b
          have hrs := hbj.size
          have HB : Hid (Lib.compact ((selP a b).mergeSort fun x y => decide (x ≤ y)) = bothP a b) := Lib.hid rfl
          generalize selP a b = ns at *
          go_wp2_with fail
          refine (sort_row wq.heap.size _ ns (by omega) _ hrs hS).mono ?_
          rintro e w9 ⟨rfl, hS9, hb9⟩
          have hb10 := hbj.trans hb9
          go_wp2_with fail
          refine (compact_row wq.heap.size _ _ _ hb10.size hS9).mono ?_
          rintro e w11 ⟨x, rfl, hS11, hb11⟩
          go_wp2_with fail
          all_goals (go_ret; refine ⟨x, rfl, ?_, (hbm.trans (hb10.mono hqs)).trans (hb11.mono hqs)⟩)
          rw [← HB.out]
          exact hS11.low hqs
end Go.Proofs.YtbnjhfkmdejeaaaDoor

/- The chapter's examples of layer 5. -/
set_option linter.unusedSimpArgs false
set_option linter.unusedVariables false
namespace Go.Proofs.YtbnjhfkmdejeaaaDoor
open Go.RowKit Pl

def four : List (Bs × Int) := [([97], 1), ([98], 1), ([99], 1), ([100], 1)]
theorem four_ok : chkM four = true := by decide
theorem four_tot : totM four = 4 := by decide
theorem four_quo : quoM four = 3 := by decide
theorem four_most : mostM four = 1 := by decide
theorem four_of : ofM four [[98], [122], [98]] = 1 := by decide


end Go.Proofs.YtbnjhfkmdejeaaaDoor

/- Walk of the statement PowerOverlap, and the sums that it leans on. -/
set_option linter.unusedSimpArgs false
set_option linter.unusedVariables false
namespace Go.Proofs.YtbnjhfkmdejeaaaDoor
open Go.RowKit Pl

namespace Pl
theorem sum_mono (X Y : List Bs) (h : ∀ x, x ∈ X → x ∈ Y) : ∀ l : List (Bs × Int), (∀ m ∈ l, 0 ≤ m.2) → sumOf X l ≤ sumOf Y l
  | [], _ => by simp [sumOf]
  | m :: l, hp => by
    have ih := sum_mono X Y h l (fun x hx => hp x (by simp [hx]))
    have h0 := hp m (by simp)
    simp only [sumOf, List.contains_iff_mem]
    by_cases h1 : m.1 ∈ X
    · rw [if_pos h1, if_pos (h _ h1)]; omega
    · rw [if_neg h1]
      by_cases h2 : m.1 ∈ Y
      · rw [if_pos h2]; omega
      · rw [if_neg h2]; omega
theorem sum_incl (A B C : List Bs) (h : ∀ x, x ∈ A → x ∈ B → x ∈ C) : ∀ l : List (Bs × Int), (∀ m ∈ l, 0 ≤ m.2) → sumOf A l + sumOf B l ≤ sumM l + sumOf C l
  | [], _ => by simp [sumOf, sumM]
  | m :: l, hp => by
    have ih := sum_incl A B C h l (fun x hx => hp x (by simp [hx]))
    have h0 := hp m (by simp)
    simp only [sumOf, sumM, List.contains_iff_mem]
    by_cases h1 : m.1 ∈ A
    · by_cases h2 : m.1 ∈ B
      · rw [if_pos h1, if_pos h2, if_pos (h _ h1 h2)]; omega
      · rw [if_pos h1, if_neg h2]
        split <;> omega
    · rw [if_neg h1]
      split <;> split <;> omega
theorem pow_pos_of {l : List (Bs × Int)} (hc : chkM l = true) : ∀ m ∈ l, 0 ≤ m.2 := by
  simp only [chkM, Bool.and_eq_true, decide_eq_true_eq] at hc
  intro m hm
  obtain ⟨i, hi, rfl⟩ := List.getElem_of_mem hm
  have := (okM_at l [] hc.2 i hi).2.1
  rw [List.getD_eq_getElem?_getD, List.getElem?_eq_getElem hi] at this
  simp at this
  omega
theorem tot_pos {l : List (Bs × Int)} (hc : chkM l = true) : 1 ≤ totM l := by
  have hc2 := hc
  simp only [chkM, Bool.and_eq_true, decide_eq_true_eq] at hc2
  have h := sumM_take l (fun i hi => (okM_at l [] hc2.2 i hi).2) l.length (by omega)
  rw [List.take_length] at h
  rw [totM, if_pos hc]
  have := hc2.1.1
  omega
theorem quo_of {l : List (Bs × Int)} (hc : chkM l = true) : quoM l = 2 * totM l / 3 + 1 := by
  have := tot_pos hc
  unfold quoM
  rw [if_neg (by omega), Int.tdiv_eq_ediv_of_nonneg (by omega)]
theorem quo_bound (l : List (Bs × Int)) : quoM l ≤ 4700 ∧ 0 ≤ quoM l := by
  have := totM_bound l
  unfold quoM
  split
  · omega
  · rw [Int.tdiv_eq_ediv_of_nonneg (by omega)]; omega
theorem most_of {l : List (Bs × Int)} (hc : chkM l = true) : mostM l = (totM l - 1) / 3 := by
  have := tot_pos hc
  unfold mostM
  rw [if_neg (by omega), Int.tdiv_eq_ediv_of_nonneg (by omega)]
theorem of_bound {l : List (Bs × Int)} (X : List Bs) (hc : chkM l = true) : 0 ≤ ofM l X ∧ ofM l X ≤ 7000 := by
  have hc2 := hc
  simp only [chkM, Bool.and_eq_true, decide_eq_true_eq] at hc2
  have h := sumOf_take X l (fun i hi => (okM_at l [] hc2.2 i hi).2) l.length (by omega)
  rw [List.take_length] at h
  rw [ofM, if_pos hc]
  omega
/-- What the statement says, of numbers alone. -/
theorem over_law {l : List (Bs × Int)} {A B C : List Bs} (hc : chkM l = true) (h : IsBoth A B C) :
    ofM l C ≤ ofM l A ∧ ofM l C ≤ ofM l B ∧ (quoM l ≤ ofM l A → quoM l ≤ ofM l B → mostM l < ofM l C ∧ totM l < 3 * ofM l C) := by
  have hp := pow_pos_of hc
  have h1 := sum_mono C A (fun x hx => ((h.2 x).1 hx).1) l hp
  have h2 := sum_mono C B (fun x hx => ((h.2 x).1 hx).2) l hp
  have h3 := sum_incl A B C (fun x ha hb => (h.2 x).2 ⟨ha, hb⟩) l hp
  have ht := tot_pos hc
  rw [quo_of hc, most_of hc]
  simp only [ofM, totM, hc, if_true] at *
  refine ⟨h1, h2, fun h4 h5 => ⟨?_, ?_⟩⟩ <;> omega
end Pl

end Go.Proofs.YtbnjhfkmdejeaaaDoor
