/- Plain: what two lists have in common, in order, none twice. -/
import Derived.Test.YtmldonbmjgelnaaDoorPlain
import Derived.Lib.SlicesCompact
set_option linter.unusedSimpArgs false
set_option linter.unusedVariables false
namespace Go.Proofs.YtmldonbmjgelnaaDoor
namespace Pl

/-- l has what is in both, in order, none twice. -/
def IsBoth (a b l : List Bs) : Prop := l.Pairwise (fun x y => x < y) ∧ ∀ x, x ∈ l ↔ x ∈ a ∧ x ∈ b
theorem sorted_uniq : ∀ (l m : List Bs), l.Pairwise (fun x y => x < y) → m.Pairwise (fun x y => x < y) → (∀ x, x ∈ l ↔ x ∈ m) → l = m
  | [], [], _, _, _ => rfl
  | [], y :: m, _, _, h => absurd ((h y).2 (by simp)) (by simp)
  | x :: l, [], _, _, h => absurd ((h x).1 (by simp)) (by simp)
  | x :: l, y :: m, hl, hm, h => by
    rw [List.pairwise_cons] at hl hm
    have hxy : x = y := by
      rcases List.mem_cons.1 ((h x).1 (by simp)) with e | h1
      · exact e
      · rcases List.mem_cons.1 ((h y).2 (by simp)) with e | h2
        · exact e.symm
        · exact absurd (List.lt_trans (hl.1 y h2) (hm.1 x h1)) (List.lt_irrefl x)
    subst hxy
    have ht : l = m := sorted_uniq l m hl.2 hm.2 (fun z => by
      constructor
      · intro hz
        rcases List.mem_cons.1 ((h z).1 (by simp [hz])) with e | h1
        · subst e; exact absurd (hl.1 z hz) (List.lt_irrefl z)
        · exact h1
      · intro hz
        rcases List.mem_cons.1 ((h z).2 (by simp [hz])) with e | h1
        · subst e; exact absurd (hm.1 z hz) (List.lt_irrefl z)
        · exact h1)
    rw [ht]
theorem isBoth_uniq {a b l m : List Bs} (h : IsBoth a b l) (k : IsBoth a b m) : l = m :=
  sorted_uniq l m h.1 k.1 (fun x => (h.2 x).trans (k.2 x).symm)

theorem upTo_mem (d : Array Bs) : ∀ m, m ≤ d.size → ∀ x, x ∈ Lib.compactUpTo d m ↔ ∃ j, j < m ∧ d[j]! = x
  | 0, _, x => by simp [Lib.compactUpTo]
  | m + 1, hm, x => by
    rw [Lib.compactUpTo_succ, List.mem_append, upTo_mem d m (by omega) x]
    constructor
    · rintro (⟨j, hj, e⟩ | h)
      · exact ⟨j, by omega, e⟩
      · split at h
        · simp at h; exact ⟨m, by omega, h.symm⟩
        · simp at h
    · rintro ⟨j, hj, e⟩
      rcases Nat.lt_or_eq_of_le (Nat.le_of_lt_succ hj) with h | h
      · exact .inl ⟨j, h, e⟩
      · subst h
        by_cases hk : Lib.keeps d j = true
        · exact .inr (by rw [if_pos hk]; simp [e])
        · unfold Lib.keeps at hk
          simp only [decide_eq_true_eq, not_or, ne_eq, Classical.not_not] at hk
          exact .inl ⟨j - 1, by omega, hk.2.symm.trans e⟩
theorem upTo_sorted (d : Array Bs) (hd : ∀ i j, i ≤ j → j < d.size → d[i]! ≤ d[j]!) : ∀ m, m ≤ d.size → (Lib.compactUpTo d m).Pairwise (fun x y => x < y)
  | 0, _ => by simp [Lib.compactUpTo]
  | m + 1, hm => by
    rw [Lib.compactUpTo_succ, List.pairwise_append]
    refine ⟨upTo_sorted d hd m (by omega), by split <;> simp, fun x hx y hy => ?_⟩
    split at hy
    · rename_i hk
      simp at hy
      subst hy
      obtain ⟨j, hj, rfl⟩ := (upTo_mem d m (by omega) x).1 hx
      unfold Lib.keeps at hk
      simp only [decide_eq_true_eq] at hk
      have hne : d[m]! ≠ d[m - 1]! := by
        rcases hk with h | h
        · omega
        · exact h
      have h1 := hd j (m - 1) (by omega) (by omega)
      have h2 := hd (m - 1) m (by omega) (by omega)
      refine List.lt_of_le_of_lt h1 ?_
      rcases Classical.em (d[m - 1]! < d[m]!) with h | h
      · exact h
      · exact absurd (List.le_antisymm (List.not_lt.1 h) h2) hne
    · simp at hy
theorem compact_sorted (zs : List Bs) (h : zs.Pairwise (fun x y => x ≤ y)) : (Lib.compact zs).Pairwise (fun x y => x < y) := by
  unfold Lib.compact
  refine upTo_sorted zs.toArray (fun i j hij hj => ?_) zs.length (by simp)
  simp at hj
  rw [getElem!_pos _ _ (by simp; omega), getElem!_pos _ _ (by simpa using hj)]
  simp only [List.getElem_toArray]
  rcases Nat.lt_or_eq_of_le hij with hlt | rfl
  · exact List.pairwise_iff_getElem.1 h i j (by omega) hj hlt
  · exact List.le_refl _
theorem compact_mem (zs : List Bs) (x : Bs) : x ∈ Lib.compact zs ↔ x ∈ zs := by
  unfold Lib.compact
  rw [upTo_mem zs.toArray zs.length (by simp)]
  constructor
  · rintro ⟨j, hj, rfl⟩
    rw [getElem!_pos _ _ (by simpa using hj)]
    simp
  · intro hx
    obtain ⟨j, hj, rfl⟩ := List.getElem_of_mem hx
    exact ⟨j, hj, by rw [getElem!_pos _ _ (by simpa using hj)]; simp⟩
/-- The program's way. -/
def selP (a b : List Bs) : List Bs := b.filter fun x => a.contains x
def bothP (a b : List Bs) : List Bs := Lib.compact ((selP a b).mergeSort fun x y => decide (x ≤ y))
theorem bothP_is (a b : List Bs) : IsBoth a b (bothP a b) := by
  constructor
  · refine compact_sorted _ ?_
    have h := List.pairwise_mergeSort (le := fun x y : Bs => decide (x ≤ y)) (fun x y z h k => by simp only [decide_eq_true_eq] at *; exact List.le_trans h k) (fun x y => by simp only [Bool.or_eq_true, decide_eq_true_eq]; exact List.le_total x y) (selP a b)
    exact h.imp (fun {x y} h => by simpa using h)
  · intro x
    unfold bothP
    rw [compact_mem, (List.mergeSort_perm (selP a b) _).mem_iff]
    unfold selP
    rw [List.mem_filter]
    simp only [List.contains_iff_mem]
    exact And.comm

/-! the document's way: the least one that is left, again and again -/
theorem nodup_len : ∀ (l a : List Bs), l.Nodup → (∀ x ∈ l, x ∈ a) → l.length ≤ a.length
  | [], _, _, _ => by simp
  | x :: l, a, hn, h => by
    rw [List.nodup_cons] at hn
    have hx : x ∈ a := h x (by simp)
    have ih := nodup_len l (a.erase x) hn.2 (fun y hy => (List.mem_erase_of_ne (fun e => hn.1 (by rw [← e]; exact hy))).2 (h y (by simp [hy])))
    rw [List.length_erase_of_mem hx] at ih
    have : 0 < a.length := List.length_pos_of_mem hx
    simp only [List.length_cons]
    omega
def cand (b out : List Bs) (x : Bs) : Bool := b.contains x && !out.contains x
def LeastAt (a b out : List Bs) (i : Nat) (at_ : Int) : Prop :=
  (at_ = -1 ∧ ∀ j, j < i → cand b out (a.getD j []) = false) ∨ ∃ j : Nat, j < i ∧ at_ = j ∧ cand b out (a.getD j []) = true ∧ ∀ k, k < i → cand b out (a.getD k []) = true → a.getD j [] ≤ a.getD k []
structure Sel (a b out : List Bs) (k : Nat) : Prop where
  sorted : out.Pairwise (fun x y => x < y)
  sub : ∀ x ∈ out, x ∈ a ∧ x ∈ b
  above : ∀ x ∈ a, x ∈ b → x ∉ out → ∀ y ∈ out, y < x
  full : out.length = k ∨ ∀ x ∈ a, x ∈ b → x ∈ out
theorem Sel.zero (a b : List Bs) : Sel a b [] 0 := ⟨List.Pairwise.nil, by simp, by simp, .inl rfl⟩
theorem getD_mem (a : List Bs) (j : Nat) (hj : j < a.length) : a.getD j [] ∈ a := by
  rw [List.getD_eq_getElem?_getD, List.getElem?_eq_getElem hj]
  exact List.getElem_mem hj
theorem mem_getD' (a : List Bs) (x : Bs) (hx : x ∈ a) : ∃ j, j < a.length ∧ a.getD j [] = x := by
  obtain ⟨j, hj, rfl⟩ := List.getElem_of_mem hx
  exact ⟨j, hj, by rw [List.getD_eq_getElem?_getD, List.getElem?_eq_getElem hj]; rfl⟩
theorem cand_true {b out : List Bs} {x : Bs} : cand b out x = true ↔ x ∈ b ∧ x ∉ out := by
  simp [cand]
theorem Sel.none {a b out : List Bs} {k : Nat} (h : Sel a b out k) (hl : LeastAt a b out a.length (-1)) : Sel a b out (k + 1) := by
  refine ⟨h.sorted, h.sub, h.above, .inr (fun x hx hb => ?_)⟩
  rcases hl with ⟨_, hl⟩ | ⟨j, _, e, _⟩
  · obtain ⟨j, hj, rfl⟩ := mem_getD' a x hx
    have := hl j hj
    rcases Classical.em (a.getD j [] ∈ out) with h1 | h1
    · exact h1
    · rw [cand_true.2 ⟨hb, h1⟩] at this
      exact absurd this (by simp)
  · omega
theorem Sel.some {a b out : List Bs} {k j : Nat} (h : Sel a b out k) (hj : j < a.length) (hc : cand b out (a.getD j []) = true) (hl : ∀ k, k < a.length → cand b out (a.getD k []) = true → a.getD j [] ≤ a.getD k []) : Sel a b (out ++ [a.getD j []]) (k + 1) := by
  obtain ⟨hb, hn⟩ := cand_true.1 hc
  have hm := getD_mem a j hj
  refine ⟨?_, ?_, ?_, ?_⟩
  · rw [List.pairwise_append]
    refine ⟨h.sorted, by simp, fun x hx y hy => ?_⟩
    simp at hy
    subst hy
    exact h.above _ hm hb hn x hx
  · intro x hx
    rcases List.mem_append.1 hx with hx | hx
    · exact h.sub x hx
    · simp at hx; subst hx; exact ⟨hm, hb⟩
  · intro x hx hxb hxo y hy
    have hxo' : x ∉ out := fun h => hxo (List.mem_append.2 (.inl h))
    rcases List.mem_append.1 hy with hy | hy
    · exact h.above x hx hxb hxo' y hy
    · simp at hy
      subst hy
      obtain ⟨i, hi, rfl⟩ := mem_getD' a x hx
      have h1 := hl i hi (cand_true.2 ⟨hxb, hxo'⟩)
      rcases Classical.em (a.getD j [] < a.getD i []) with h2 | h2
      · exact h2
      · have he := List.le_antisymm h1 (List.not_lt.1 h2)
        exact absurd (List.mem_append.2 (.inr (by rw [he]; exact List.mem_singleton.2 rfl))) hxo
  · rcases h.full with h1 | h1
    · exact .inl (by simp [h1])
    · exact absurd (h1 _ hm hb) hn
theorem Sel.is {a b out : List Bs} (h : Sel a b out a.length) : IsBoth a b out := by
  refine ⟨h.sorted, fun x => ⟨h.sub x, fun ⟨hx, hb⟩ => ?_⟩⟩
  rcases h.full with h1 | h1
  · rcases Classical.em (x ∈ out) with h2 | h2
    · exact h2
    · have hn : (x :: out).Nodup := List.nodup_cons.2 ⟨h2, h.sorted.imp (fun {a b} h e => by subst e; exact absurd h (List.lt_irrefl _))⟩
      have := nodup_len (x :: out) a hn (fun y hy => by
        rcases List.mem_cons.1 hy with rfl | hy
        · exact hx
        · exact (h.sub y hy).1)
      simp only [List.length_cons] at this
      omega
  · exact h1 x hx hb
end Pl
end Go.Proofs.YtmldonbmjgelnaaDoor
