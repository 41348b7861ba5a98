/- ScanP, AtP, Less. -/
import Derived.Test.YtdddcncjmnekcaaGreatDoorMg1
import Derived.Test.YtdddcncjmnekcaaGreatDoorMg2
import Derived.Test.YtdddcncjmnekcaaGreatDoorMg18
set_option linter.unnecessarySimpa false

/- Plain: what is behind a key, ranges of items, pages; what is put, one after the other. -/
set_option linter.unusedSimpArgs false
set_option linter.unusedVariables false
namespace Go.Proofs.YtdddcncjmnekcaaGreatDoor
namespace Pl

/-! ### behind a key -/
def behF : Bs → Option Bs
  | [] => none
  | c :: r => match behF r with
    | some x => some (c :: x)
    | none => if c = 255 then none else some [c + 1]
theorem behF_snoc : ∀ (l : Bs) (c : UInt8), behF (l ++ [c]) = if c = 255 then behF l else some (l ++ [c + 1])
  | [], c => by simp [behF]
  | a :: r, c => by
    rw [List.cons_append, behF, behF_snoc r c]
    by_cases h : c = 255
    · rw [if_pos h, if_pos h, behF]
    · rw [if_neg h, if_neg h]; rfl
theorem succ_nat (c : UInt8) (h : c ≠ 255) : (c + 1).toNat = c.toNat + 1 := by
  have h1 := c.toNat_lt
  have h2 : c.toNat ≠ 255 := fun e => h (UInt8.toNat_inj.1 e)
  rw [UInt8.toNat_add]
  simp
  omega
/-- What behF tells. -/
def BehOk (a b : Bs) : Option Bs → Prop
  | none => ¬ a < b
  | some x => a < x ∧ x.length ≤ a.length ∧ (a < b ↔ ¬ b < x)
theorem behF_law : ∀ (a b : Bs), b.length ≤ a.length → BehOk a b (behF a)
  | [], b, h => by
    have : b = [] := List.length_eq_zero_iff.1 (by simpa using h)
    subst this
    simp [behF, BehOk]
  | c :: r, [], _ => by
    have ih := behF_law r [] (by simp)
    unfold behF
    cases hr : behF r with
    | some y =>
      rw [hr] at ih
      simp only [BehOk] at ih ⊢
      refine ⟨by rw [List.cons_lt_cons_iff]; exact .inr ⟨rfl, ih.1⟩, by simp; exact ih.2.1, by simp⟩
    | none =>
      simp only
      split
      · simp [BehOk]
      · rename_i hc
        simp only [BehOk]
        refine ⟨by rw [List.cons_lt_cons_iff]; left; rw [UInt8.lt_iff_toNat_lt, succ_nat c hc]; omega, by simp, by simp⟩
  | c :: r, d :: s, h => by
    have ih := behF_law r s (by simpa using h)
    unfold behF
    cases hr : behF r with
    | some y =>
      rw [hr] at ih
      simp only [BehOk] at ih ⊢
      refine ⟨by rw [List.cons_lt_cons_iff]; exact .inr ⟨rfl, ih.1⟩, by simp; exact ih.2.1, ?_⟩
      rw [List.cons_lt_cons_iff, List.cons_lt_cons_iff, ih.2.2]
      simp only [UInt8.lt_iff_toNat_lt, ← UInt8.toNat_inj]
      constructor
      · rintro (h1 | ⟨h1, h2⟩)
        · rintro (h3 | ⟨h3, _⟩) <;> omega
        · rintro (h3 | ⟨_, h4⟩)
          · omega
          · exact h2 h4
      · intro h1
        by_cases h2 : c.toNat < d.toNat
        · exact .inl h2
        · have h3 : c.toNat = d.toNat := by
            rcases Nat.lt_or_ge d.toNat c.toNat with h4 | h4
            · exact absurd (.inl h4) h1
            · omega
          exact .inr ⟨h3, fun h4 => h1 (.inr ⟨h3.symm, h4⟩)⟩
    | none =>
      rw [hr] at ih
      simp only [BehOk] at ih
      simp only
      have hd := d.toNat_lt
      split
      · rename_i hc
        simp only [BehOk]
        rw [List.cons_lt_cons_iff]
        rintro (h1 | ⟨_, h1⟩)
        · rw [hc, UInt8.lt_iff_toNat_lt] at h1
          have : (255 : UInt8).toNat = 255 := rfl
          omega
        · exact ih h1
      · rename_i hc
        have hs := succ_nat c hc
        simp only [BehOk]
        refine ⟨by rw [List.cons_lt_cons_iff]; left; rw [UInt8.lt_iff_toNat_lt, hs]; omega, by simp, ?_⟩
        rw [List.cons_lt_cons_iff, List.cons_lt_cons_iff]
        simp only [UInt8.lt_iff_toNat_lt, ← UInt8.toNat_inj, hs]
        constructor
        · rintro (h1 | ⟨_, h1⟩)
          · rintro (h3 | ⟨_, h3⟩)
            · omega
            · simp at h3
          · exact absurd h1 ih
        · intro h1
          left
          rcases Nat.lt_or_ge c.toNat d.toNat with h4 | h4
          · exact h4
          · exact absurd (.inl (by omega)) h1
theorem lt_zero : ∀ (a b : Bs), a < b ↔ ¬ b < a ++ [0]
  | [], [] => by simp
  | [], d :: s => by
    simp only [List.nil_append, List.cons_lt_cons_iff, UInt8.lt_iff_toNat_lt]
    simp
  | c :: r, [] => by simp
  | c :: r, d :: s => by
    rw [List.cons_append, List.cons_lt_cons_iff, List.cons_lt_cons_iff, lt_zero r s]
    simp only [UInt8.lt_iff_toNat_lt, ← UInt8.toNat_inj]
    constructor
    · rintro (h1 | ⟨h1, h2⟩)
      · rintro (h3 | ⟨h3, _⟩) <;> omega
      · rintro (h3 | ⟨_, h4⟩)
        · omega
        · exact h2 h4
    · intro h1
      by_cases h2 : c.toNat < d.toNat
      · exact .inl h2
      · have h3 : c.toNat = d.toNat := by
          rcases Nat.lt_or_ge d.toNat c.toNat with h4 | h4
          · exact absurd (.inl h4) h1
          · omega
        exact .inr ⟨h3, fun h4 => h1 (.inr ⟨h3.symm, h4⟩)⟩
/-- The least key above a key. -/
def behP (k : Bs) : Bs := if 8 < k.length then [] else if k.length < 8 then k ++ [0] else (behF k).getD []
theorem behP_law (a b : Bs) (ha : a.length ≤ 8) (hb : b.length ≤ 8) :
    (behP a = [] → ¬ a < b) ∧ (behP a ≠ [] → a < behP a ∧ (behP a).length ≤ 8 ∧ (a < b ↔ ¬ b < behP a)) := by
  unfold behP
  rw [if_neg (by omega)]
  by_cases h : a.length < 8
  · rw [if_pos h]
    refine ⟨fun e => by simp at e, fun _ => ⟨?_, by simp; omega, lt_zero a b⟩⟩
    have := (lt_zero a (a ++ [0])).2 (List.lt_irrefl _)
    exact this
  · rw [if_neg h]
    have hl := behF_law a b (by omega)
    cases hf : behF a with
    | none =>
      rw [hf] at hl
      exact ⟨fun _ => hl, fun e => absurd rfl e⟩
    | some x =>
      rw [hf] at hl
      simp only [BehOk] at hl
      refine ⟨fun e => ?_, fun _ => ⟨hl.1, by simp; omega, hl.2.2⟩⟩
      simp at e
      subst e
      exact absurd hl.1 (by simp)

/-! ### ranges -/
def inR (f e k : Bs) : Bool := !decide (k < f) && (e.isEmpty || decide (k < e))
def wI (f e : Bs) : List It → List It
  | [] => []
  | x :: r => if x.1 < f then wI f e r else if e ≠ [] ∧ ¬ x.1 < e then [] else x :: wI f e r
def allI (f e : Bs) (l : List It) : List It := l.filter fun x => inR f e x.1
theorem lt_of_not {a b : Bs} (h : ¬ a < b) (hn : a ≠ b) : b < a := by
  rcases Classical.em (b < a) with h1 | h1
  · exact h1
  · exact absurd (List.le_antisymm (List.not_lt.1 h1) (List.not_lt.1 h)) hn
theorem ge_lt {a b c : Bs} (h : ¬ b < a) (h2 : b < c) : a < c := by
  by_cases e : a = b
  · rw [e]; exact h2
  · exact List.lt_trans (lt_of_not h (fun x => e x.symm)) h2
theorem lt_ge {a b c : Bs} (h : a < b) (h2 : ¬ c < b) : a < c := by
  by_cases e : c = b
  · rw [e]; exact h
  · exact List.lt_trans h (lt_of_not h2 e)
theorem wI_all (f e : Bs) : ∀ (l : List It), Rise l → wI f e l = allI f e l
  | [], _ => rfl
  | x :: r, h => by
    unfold Rise at h
    rw [List.pairwise_cons] at h
    have ih := wI_all f e r h.2
    unfold wI allI
    rw [List.filter_cons]
    by_cases h1 : x.1 < f
    · rw [if_pos h1, if_neg (by simp [inR, h1]), ih]; rfl
    · rw [if_neg h1]
      by_cases h2 : e ≠ [] ∧ ¬ x.1 < e
      · rw [if_pos h2, if_neg (by simp [inR, h2.1, h2.2])]
        symm
        rw [List.filter_eq_nil_iff]
        intro y hy
        have h3 := h.1 y hy
        have h4 : ¬ y.1 < e := fun h5 => h2.2 (List.lt_trans h3 h5)
        simp [inR, h2.1, h4]
      · rw [if_neg h2, if_pos (by
          simp only [ne_eq, not_and, Classical.not_not] at h2
          by_cases h3 : e = []
          · simp [inR, h1, h3]
          · simp [inR, h1, h2 h3]), ih]
        rfl
def pageL (f e : Bs) (m : Nat) (l : List It) : List It := (allI f e l).take m
def pageN (f e : Bs) (m : Nat) (l : List It) : Bs := if (allI f e l).length ≤ m then [] else behP ((allI f e l).getD (m - 1) ([], [])).1
theorem rise_filter (p : It → Bool) {l : List It} (h : Rise l) : Rise (l.filter p) := by
  unfold Rise at h ⊢
  exact h.filter p
theorem rise_past : ∀ (m : Nat) (a : List It), Rise a → m < a.length → a.filter (fun x => decide ((a.getD m ([], [])).1 < x.1)) = a.drop (m + 1)
  | _, [], _, h => by simp at h
  | 0, x :: r, h, _ => by
    unfold Rise at h
    rw [List.pairwise_cons] at h
    simp only [List.getD_cons_zero, List.filter_cons, List.lt_irrefl, decide_false, List.drop_succ_cons, List.drop_zero]
    rw [if_neg (by simp), List.filter_eq_self]
    intro y hy
    simpa using h.1 y hy
  | m + 1, x :: r, h, hm => by
    unfold Rise at h
    rw [List.pairwise_cons] at h
    have hm' : m < r.length := by simpa using hm
    have hx : x.1 < (r.getD m ([], [])).1 := h.1 _ (by rw [List.getD_eq_getElem?_getD, List.getElem?_eq_getElem hm']; exact List.getElem_mem hm')
    rw [List.getD_cons_succ, List.filter_cons, if_neg (by simpa using fun h2 => List.lt_irrefl _ (List.lt_trans hx h2)), List.drop_succ_cons]
    exact rise_past m r h.2 hm'
theorem page_next (f e : Bs) (m : Nat) (l : List It) (h : Rise l) (hk : ∀ x ∈ l, x.1.length ≤ 8) (h1 : 1 ≤ m) (hm : m < (allI f e l).length) :
    pageN f e m l ≠ [] ∧ allI (pageN f e m l) e l = (allI f e l).drop m := by
  have hr : Rise (allI f e l) := rise_filter _ h
  have hp := rise_past (m - 1) _ hr (by omega)
  rw [show m - 1 + 1 = m from by omega] at hp
  have hin : ∀ i, i < (allI f e l).length → (allI f e l).getD i ([], []) ∈ allI f e l := fun i hi => by
    rw [List.getD_eq_getElem?_getD, List.getElem?_eq_getElem hi]; exact List.getElem_mem hi
  unfold pageN
  rw [if_neg (by omega)]
  have hkm := hin (m - 1) (by omega)
  have hkn := hin m hm
  generalize hkk : (allI f e l).getD (m - 1) ([], []) = k at *
  generalize hnn : (allI f e l).getD m ([], []) = n at *
  have hlt : k.1 < n.1 := by
    have : n ∈ (allI f e l).drop m := by
      rw [← hnn, List.getD_eq_getElem?_getD, List.getElem?_eq_getElem hm, List.mem_iff_getElem]
      exact ⟨0, by simp; omega, by simp⟩
    rw [← hp] at this
    simpa using (List.mem_filter.1 this).2
  have hkl : k ∈ l := (List.mem_filter.1 hkm).1
  have hnl : n ∈ l := (List.mem_filter.1 hkn).1
  have hkr := (List.mem_filter.1 hkm).2
  have hne : behP k.1 ≠ [] := fun e => (behP_law k.1 n.1 (hk k hkl) (hk n hnl)).1 e hlt
  refine ⟨hne, ?_⟩
  rw [← hp]
  unfold allI
  rw [List.filter_filter]
  refine List.filter_congr fun x hx => ?_
  have hl := ((behP_law k.1 x.1 (hk k hkl) (hk x hx)).2 hne).2.2
  have hf : ¬ k.1 < f := by
    simp [inR] at hkr; simpa using hkr.1
  unfold inR
  by_cases h2 : k.1 < x.1
  · have h3 := hl.1 h2
    have h4 : ¬ x.1 < f := fun h5 => hf (List.lt_trans h2 h5)
    simp [h2, h3, h4]
  · have h3 : x.1 < behP k.1 := Classical.byContradiction fun h4 => h2 (hl.2 h4)
    simp [h2, h3]
theorem split_at (c : Bs) : ∀ (l : List It), Rise l → l = l.filter (fun x => decide (x.1 < c)) ++ l.filter (fun x => !decide (x.1 < c))
  | [], _ => rfl
  | x :: r, h => by
    unfold Rise at h
    rw [List.pairwise_cons] at h
    have ih := split_at c r h.2
    by_cases h1 : x.1 < c
    · rw [List.filter_cons, if_pos (by simpa using h1), List.filter_cons, if_neg (by simp [h1]), List.cons_append, ← ih]
    · have h2 : r.filter (fun x => decide (x.1 < c)) = [] := by
        rw [List.filter_eq_nil_iff]
        intro y hy
        simpa using fun h3 => h1 (List.lt_trans (h.1 y hy) h3)
      rw [h2] at ih
      rw [List.filter_cons, if_neg (by simpa using h1), h2, List.filter_cons, if_pos (by simp [h1]), List.nil_append]
      rw [List.nil_append] at ih
      rw [← ih]
theorem parts (f c e : Bs) (l : List It) (h : Rise l) (h1 : ¬ c < f) (h2 : e = [] ∨ ¬ e < c) (hc : c ≠ []) : allI f e l = allI f c l ++ allI c e l := by
  unfold allI
  conv => lhs; rw [split_at c l h]
  rw [List.filter_append, List.filter_filter, List.filter_filter]
  congr 1
  · refine List.filter_congr fun x _ => ?_
    unfold inR
    by_cases h3 : x.1 < c
    · have h4 : e.isEmpty = true ∨ x.1 < e := h2.imp (fun h => by simp [h]) (fun h => lt_ge h3 h)
      rcases h4 with h4 | h4 <;> simp [h3, h4]
    · simp [h3, hc]
  · refine List.filter_congr fun x _ => ?_
    unfold inR
    by_cases h3 : x.1 < c
    · simp [h3]
    · have h4 : ¬ x.1 < f := fun h5 => h3 (lt_ge h5 h1)
      simp [h3, h4]

/-! ### what is put, one after the other -/
def keyB (k : Bs) : Bool := decide (1 ≤ k.length) && decide (k.length ≤ 8)
def hasK (k : Bs) (l : List It) : Bool := l.any fun x => x.1 == k
def putE (l : List It) (k v : Bs) : Int := if keyB k = false then 1 else if v.length < 1 ∨ 32 < v.length ∨ (hasK k l = false ∧ 1024 ≤ l.length) then 2 else 0
def ofI : List It → List It → List It × Int
  | acc, [] => (acc, 0)
  | acc, x :: r => if putE acc x.1 x.2 = 0 then ofI (insI x.1 x.2 acc) r else ([], putE acc x.1 x.2)
/-- Items that a trie may have. -/
structure GoodI (l : List It) : Prop where
  rise : Rise l
  keys : ∀ x ∈ l, x.1.length ≤ 8
  many : l.length ≤ 1024
theorem GoodI.nil : GoodI [] := ⟨by simp [Rise], by simp, by simp⟩
theorem insI_has : ∀ (k v : Bs) (l : List It), Rise l → hasK k l = true → (insI k v l).length = l.length
  | k, v, [], _, h => by simp [hasK] at h
  | k, v, x :: r, hr, h => by
    unfold Rise at hr
    rw [List.pairwise_cons] at hr
    unfold insI
    by_cases h1 : x.1 < k
    · rw [if_pos h1]
      have h2 : hasK k r = true := by
        unfold hasK at h ⊢
        rw [List.any_cons] at h
        have : (x.1 == k) = false := by simpa using fun e => List.lt_irrefl _ (e ▸ h1)
        simpa [this] using h
      simp [insI_has k v r hr.2 h2]
    · rw [if_neg h1]
      by_cases h2 : x.1 = k
      · rw [if_pos h2]; simp
      · exfalso
        have h3 := lt_of_not h1 h2
        unfold hasK at h
        rw [List.any_eq_true] at h
        obtain ⟨y, hy, e⟩ := h
        have e' : y.1 = k := by simpa using e
        rcases List.mem_cons.1 hy with rfl | hy
        · exact h2 e'
        · exact List.lt_irrefl _ (List.lt_trans h3 (e' ▸ hr.1 y hy))
theorem GoodI.put {l : List It} (h : GoodI l) (k v : Bs) (he : putE l k v = 0) : GoodI (insI k v l) ∧ k.length ≤ 8 ∧ v ≠ [] ∧ k ≠ [] := by
  unfold putE at he
  split at he
  · cases he
  · rename_i hk
    split at he
    · cases he
    · rename_i hv
      simp only [keyB, Bool.not_eq_false, Bool.and_eq_true, decide_eq_true_eq] at hk
      simp only [not_or, not_and] at hv
      refine ⟨⟨insI_rise _ _ _ h.rise, fun x hx => ?_, ?_⟩, hk.2, fun e => by rw [e] at hv; simp at hv, fun e => by rw [e] at hk; simp at hk⟩
      · rcases (insI_mem k v l h.rise x).1 hx with h1 | h1
        · rw [h1]; exact hk.2
        · exact h.keys x h1.1
      · cases hh : hasK k l with
        | true => rw [insI_has k v l h.rise hh]; exact h.many
        | false =>
          have h1 := hv.2.2 hh
          have h2 := insI_len k v l
          have h3 := h.many
          omega
theorem ofI_good : ∀ (r acc : List It), GoodI acc → GoodI (ofI acc r).1
  | [], acc, h => h
  | x :: r, acc, h => by
    unfold ofI
    split
    · rename_i he
      exact ofI_good r _ (h.put _ _ he).1
    · exact GoodI.nil
theorem ofI_len : ∀ (r acc : List It), (ofI acc r).1.length ≤ acc.length + r.length
  | [], acc => by simp [ofI]
  | x :: r, acc => by
    unfold ofI
    split
    · have h1 := ofI_len r (insI x.1 x.2 acc)
      have h2 := insI_len x.1 x.2 acc
      simp; omega
    · simp
theorem look_has {t : Tr} {L : List It} (h : RepT t L) (k : Bs) : look t (ofP k) = [] ↔ hasK k L = false := by
  have hm := rp_mem t 16 h.ok (ofP k)
  rw [h.items] at hm
  constructor
  · intro e
    cases hh : hasK k L with
    | false => rfl
    | true =>
      exfalso
      unfold hasK at hh
      rw [List.any_eq_true] at hh
      obtain ⟨y, hy, e2⟩ := hh
      have e' : y.1 = k := by simpa using e2
      have := (hm y.2).1 (by unfold pathsI; rw [List.mem_map]; exact ⟨y, hy, by rw [e']⟩)
      rw [e] at this
      exact this.2 this.1.symm
  · intro hh
    refine Classical.byContradiction fun hn => ?_
    have := (hm _).2 ⟨rfl, hn⟩
    unfold pathsI at this
    rw [List.mem_map] at this
    obtain ⟨y, hy, e⟩ := this
    have e1 : y.1 = k := ofP_inj (by injection e)
    have : hasK k L = true := by
      unfold hasK
      rw [List.any_eq_true]
      exact ⟨y, hy, by simpa using e1⟩
    rw [hh] at this
    cases this
end Pl
end Go.Proofs.YtdddcncjmnekcaaGreatDoor

/- Plain: the place of a key among items; what is put, by that place. -/
set_option linter.unusedSimpArgs false
set_option linter.unusedVariables false
namespace Go.Proofs.YtdddcncjmnekcaaGreatDoor
namespace Pl

def atI (k : Bs) : List It → Nat
  | [] => 0
  | x :: r => if x.1 < k then atI k r + 1 else 0
def hereI (k : Bs) (l : List It) : Bool := match l.drop (atI k l) with
  | [] => false
  | x :: _ => x.1 == k
theorem atI_le (k : Bs) : ∀ l, atI k l ≤ l.length
  | [] => by simp [atI]
  | x :: r => by
    have := atI_le k r
    unfold atI
    split <;> simp <;> omega
theorem atI_below (k : Bs) : ∀ (l : List It) (i : Nat), i < atI k l → (l.getD i ([], [])).1 < k
  | [], i, h => by simp [atI] at h
  | x :: r, i, h => by
    unfold atI at h
    split at h
    · rename_i hx
      cases i with
      | zero => simpa using hx
      | succ i => simpa using atI_below k r i (by omega)
    · omega
theorem atI_not (k : Bs) : ∀ (l : List It), atI k l < l.length → ¬ (l.getD (atI k l) ([], [])).1 < k
  | [], h => by simp at h
  | x :: r, h => by
    unfold atI at h ⊢
    split
    · rename_i hx
      rw [if_pos hx] at h
      simpa using atI_not k r (by simpa using h)
    · rename_i hx
      simpa using hx
theorem atI_eq (k : Bs) : ∀ (l : List It) (i : Nat), i ≤ l.length → (∀ j, j < i → (l.getD j ([], [])).1 < k) → (i < l.length → ¬ (l.getD i ([], [])).1 < k) → atI k l = i
  | [], i, h, _, _ => by simp at h; simp [atI, h]
  | x :: r, 0, _, _, h => by
    have := h (by simp)
    simp at this
    simp [atI, this]
  | x :: r, i + 1, h, h1, h2 => by
    have h0 := h1 0 (by omega)
    simp at h0
    have := atI_eq k r i (by simpa using h) (fun j hj => by simpa using h1 (j + 1) (by omega)) (fun hi => by simpa using h2 (by simpa using hi))
    simp [atI, h0, this]
theorem hereI_at (k : Bs) (l : List It) : hereI k l = (decide (atI k l < l.length) && ((l.getD (atI k l) ([], [])).1 == k)) := by
  unfold hereI
  rcases Nat.lt_or_ge (atI k l) l.length with h | h
  · rw [List.drop_eq_getElem_cons h]
    simp [h, List.getD_eq_getElem?_getD]
  · rw [List.drop_eq_nil_of_le h]
    simp; omega
theorem insI_at (k v : Bs) : ∀ (l : List It), insI k v l = l.take (atI k l) ++ (k, v) :: l.drop (if hereI k l then atI k l + 1 else atI k l)
  | [] => by simp [insI, atI]
  | x :: r => by
    have ih := insI_at k v r
    by_cases h1 : x.1 < k
    · have e1 : hereI k (x :: r) = hereI k r := by unfold hereI; simp [atI, h1]
      have e2 : atI k (x :: r) = atI k r + 1 := by simp [atI, h1]
      rw [e1, e2]
      unfold insI
      rw [if_pos h1, ih]
      by_cases h2 : hereI k r = true
      · simp [h2]
      · simp [h2]
    · have e1 : hereI k (x :: r) = (x.1 == k) := by unfold hereI; simp [atI, h1]
      have e2 : atI k (x :: r) = 0 := by simp [atI, h1]
      rw [e1, e2]
      unfold insI
      rw [if_neg h1]
      by_cases h2 : x.1 = k
      · simp [h2]
      · simp [h2]
theorem hasK_here (k : Bs) : ∀ (l : List It), Rise l → hasK k l = hereI k l
  | [], _ => by simp [hasK, hereI]
  | x :: r, h => by
    unfold Rise at h
    rw [List.pairwise_cons] at h
    have ih := hasK_here k r h.2
    by_cases h1 : x.1 < k
    · have hne : (x.1 == k) = false := by simpa using fun e => List.lt_irrefl _ (e ▸ h1)
      have : hereI k (x :: r) = hereI k r := by unfold hereI; simp [atI, h1]
      rw [this, ← ih]
      simp [hasK, hne]
    · have : hereI k (x :: r) = (x.1 == k) := by unfold hereI; simp [atI, h1]
      rw [this]
      by_cases h2 : x.1 = k
      · simp [hasK, h2]
      · have h3 := lt_of_not h1 h2
        have : hasK k r = false := by
          unfold hasK
          rw [List.any_eq_false]
          intro y hy e
          have e' : y.1 = k := by simpa using e
          exact List.lt_irrefl _ (List.lt_trans h3 (e' ▸ h.1 y hy))
        unfold hasK at this ⊢
        rw [List.any_cons, this]
        simp
end Pl
end Go.Proofs.YtdddcncjmnekcaaGreatDoor

/- The order of texts in a walk. -/
set_option linter.unusedSimpArgs false
set_option linter.unusedVariables false
namespace Go.Proofs.YtdddcncjmnekcaaGreatDoor
open Go.RowKit Pl

theorem lessD : ∀ (x y : Bs), Op.bytesLess x y = decide (x < y)
  | [], [] => by simp [Op.bytesLess]
  | _ :: _, [] => by simp [Op.bytesLess]
  | [], _ :: _ => by simp [Op.bytesLess]
  | a :: x, b :: y => by
    rw [Op.bytesLess, lessD x y]
    rw [Bool.eq_iff_iff]
    simp [List.cons_lt_cons_iff]
theorem geD (x y : Bs) : (Op.bytesLess x y || x == y) = !decide (y < x) := by
  rw [lessD, Bool.eq_iff_iff]
  simp only [Bool.or_eq_true, decide_eq_true_eq, beq_iff_eq, Bool.not_eq_true', decide_eq_false_iff_not]
  constructor
  · rintro (h | h)
    · exact fun h2 => List.lt_irrefl _ (List.lt_trans h h2)
    · subst h; exact List.lt_irrefl _
  · intro h
    by_cases e : x = y
    · exact .inr e
    · left
      rcases Classical.em (x < y) with h1 | h1
      · exact h1
      · exact absurd (List.le_antisymm (List.not_lt.1 h) (List.not_lt.1 h1)) e
@[go_sem high] theorem lss_D (t : TypeId) (a b : Bs) : binOp .lss t (.string ⟨List.toArray (a)⟩) (.string ⟨List.toArray (b)⟩) = pure (.bool (decide (a < b))) := by
  rw [binOp_string_lss, Lib.toList_data, Lib.toList_data, lessD]
@[go_sem high] theorem geq_D (t : TypeId) (a b : Bs) : binOp .geq t (.string ⟨List.toArray (a)⟩) (.string ⟨List.toArray (b)⟩) = pure (.bool (!decide (a < b))) := by
  rw [binOp_string_geq, Lib.toList_data, Lib.toList_data, lessD]
@[go_sem high] theorem leq_D (t : TypeId) (a b : Bs) : binOp .leq t (.string ⟨List.toArray (a)⟩) (.string ⟨List.toArray (b)⟩) = pure (.bool (!decide (b < a))) := by
  rw [binOp_string_leq, Lib.toList_data, Lib.toList_data, geD]
@[go_sem high] theorem gtr_D (t : TypeId) (a b : Bs) : binOp .gtr t (.string ⟨List.toArray (a)⟩) (.string ⟨List.toArray (b)⟩) = pure (.bool (decide (b < a))) := by
  rw [binOp_string_gtr, Lib.toList_data, Lib.toList_data, geD, Bool.not_not]
end Go.Proofs.YtdddcncjmnekcaaGreatDoor
