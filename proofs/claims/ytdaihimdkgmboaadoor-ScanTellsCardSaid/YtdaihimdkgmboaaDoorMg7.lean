/- TrieS, Knot, Tied. -/
import Derived.Laws.Tables
import Derived.Test.YtdaihimdkgmboaaDoorMg4
import Derived.Test.YtdaihimdkgmboaaDoorMg6
set_option linter.unnecessarySimpa false

/- Plain: the items of a trie in order; what is put into them. -/
set_option linter.unusedSimpArgs false
set_option linter.unusedVariables false
namespace Go.Proofs.YtdaihimdkgmboaaDoor
namespace Pl

abbrev It := Bs × Bs
/-- The items by their paths, in order. -/
def rp : Tr → List It
  | .nil => []
  | .leaf p v => if v = [] then [] else [(p, v)]
  | .ext p t => (rp t).map fun x => (p ++ x.1, x.2)
  | .br v kids => (if v = [] then [] else [([], v)]) ++ (List.range 16).flatMap fun i => (rp (kids i)).map fun x => (UInt8.ofNat i :: x.1, x.2)
/-- A trie as it is made, of paths of at most n half bytes. -/
def okT : Tr → Nat → Prop
  | .nil, _ => True
  | .leaf p v, n => fit p = true ∧ p.length ≤ n
  | .ext p t, n => fit p = true ∧ p.length ≤ n ∧ (t ≠ .nil ∧ p ≠ []) ∧ okT t (n - p.length)
  | .br v kids, n => ∀ i, kids i = .nil ∨ (i < 16 ∧ 1 ≤ n ∧ okT (kids i) (n - 1))

theorem fit_app (p q : Bs) : fit (p ++ q) = (fit p && fit q) := by simp [fit]
theorem fit_split (q : Bs) (c : Nat) (h : fit q = true) : fit (q.take c) = true ∧ fit (q.drop c) = true := by
  rw [← Bool.and_eq_true, ← fit_app, List.take_append_drop]; exact h
theorem fit_cons (a : UInt8) (r : Bs) : fit (a :: r) = true ↔ a.toNat < 16 ∧ fit r = true := by
  simp [fit]; intro _; omega
theorem okT_join (p : Bs) (t : Tr) (n : Nat) (hp : fit p = true) (hl : p.length ≤ n) (hn : t ≠ .nil) (h : okT t (n - p.length)) : okT (joinT p t) n ∧ joinT p t ≠ .nil := by
  by_cases hp0 : p = []
  · subst hp0; rw [joinT_nil]; exact ⟨by simpa using h, hn⟩
  · cases t with
    | nil => exact absurd rfl hn
    | leaf q v =>
      simp only [joinT, hp0, if_false, okT, fit_app, List.length_append] at h ⊢
      exact ⟨⟨by simp [hp, h.1], by omega⟩, by simp⟩
    | ext q t =>
      simp only [joinT, hp0, if_false, okT, fit_app, List.length_append] at h ⊢
      exact ⟨⟨by simp [hp, h.1], by omega, ⟨h.2.2.1.1, by simp [hp0]⟩, by rw [← Nat.sub_sub]; exact h.2.2.2⟩, by simp⟩
    | br v kids =>
      simp only [joinT, hp0, if_false]
      exact ⟨⟨hp, hl, ⟨by simp, hp0⟩, h⟩, by simp⟩
theorem okT_old (f : Bs → Tr) (old : Bs) (n : Nat) (ho : fit old = true) (hl : old.length ≤ n) (hf : ∀ c r, old = c :: r → okT (f r) (n - 1)) : ∀ i, oldK f old i = .nil ∨ (i < 16 ∧ 1 ≤ n ∧ okT (oldK f old i) (n - 1)) := by
  intro i
  cases old with
  | nil => exact .inl rfl
  | cons c r =>
    simp only [oldK, updT]
    by_cases h : i = c.toNat
    · rw [if_pos h]
      exact .inr ⟨by rw [h]; exact ((fit_cons c r).1 ho).1, by simp at hl; omega, hf c r rfl⟩
    · rw [if_neg h]; exact .inl rfl
theorem okT_part (own q v : Bs) (kids : Nat → Tr) (n : Nat) (hq : fit q = true) (hl : q.length ≤ n) (hk : ∀ i, kids i = .nil ∨ (i < 16 ∧ 1 ≤ n ∧ okT (kids i) (n - 1))) : okT (partT own kids q v) n ∧ partT own kids q v ≠ .nil := by
  cases q with
  | nil => exact ⟨hk, by simp [partT]⟩
  | cons a r =>
    have h1 := (fit_cons a r).1 hq
    simp only [List.length_cons] at hl
    refine ⟨fun i => ?_, by simp [partT]⟩
    simp only [updT]
    by_cases h : i = a.toNat
    · rw [if_pos h]
      exact .inr ⟨by omega, by omega, h1.2, by omega⟩
    · rw [if_neg h]; exact hk i
theorem okT_mono : ∀ (t : Tr) (n m : Nat), n ≤ m → okT t n → okT t m
  | .nil, _, _, _, _ => trivial
  | .leaf p v, n, m, h, hk => ⟨hk.1, Nat.le_trans hk.2 h⟩
  | .ext p t, n, m, h, hk => ⟨hk.1, Nat.le_trans hk.2.1 h, hk.2.2.1, okT_mono t _ _ (by omega) hk.2.2.2⟩
  | .br v kids, n, m, h, hk => fun i => (hk i).imp id fun ⟨h1, h2, h3⟩ => ⟨h1, by omega, okT_mono (kids i) _ _ (by omega) h3⟩
theorem okT_put : ∀ (t : Tr) (q v : Bs) (n : Nat), okT t n → fit q = true → q.length ≤ n → okT (putT t q v) n ∧ putT t q v ≠ .nil
  | .nil, q, v, n, _, hq, hl => ⟨⟨hq, hl⟩, by simp [putT]⟩
  | .leaf p w, q, v, n, hk, hq, hl => by
    have hc := common_le p q
    unfold putT
    generalize common p q = c at *
    by_cases h : c = p.length ∧ c = q.length
    · rw [if_pos h]; exact ⟨⟨hq, hl⟩, by simp⟩
    · rw [if_neg h]
      have h1 := fit_split q c hq
      have h2 := fit_split p c hk.1
      have hlt : (q.take c).length = c := by rw [List.length_take]; omega
      have hpt := okT_part (ownT p w c) (q.drop c) v (oldK (fun r => .leaf r w) (p.drop c)) (n - c) h1.2 (by rw [List.length_drop]; omega) (okT_old _ _ _ h2.2 (by have := hk.2; rw [List.length_drop]; omega) (fun a r e => by
        have h3 := hk.2
        have h4 : (p.drop c).length = r.length + 1 := by rw [e]; rfl
        rw [List.length_drop] at h4
        exact ⟨((fit_cons a r).1 (e ▸ h2.2)).2, by omega⟩))
      exact okT_join _ _ n h1.1 (by omega) hpt.2 (by rw [hlt]; exact hpt.1)
  | .ext p t, q, v, n, hk, hq, hl => by
    have hc := common_le p q
    unfold putT
    generalize common p q = c at *
    have h1 := fit_split q c hq
    by_cases h : c = p.length
    · rw [if_pos h]
      have := okT_put t (q.drop c) v (n - p.length) hk.2.2.2 h1.2 (by rw [List.length_drop]; omega)
      exact okT_join _ _ n hk.1 hk.2.1 this.2 this.1
    · rw [if_neg h]
      have h2 := fit_split p c hk.1
      have hlt : (q.take c).length = c := by rw [List.length_take]; omega
      have hpt := okT_part [] (q.drop c) v (oldK (fun r => joinT r t) (p.drop c)) (n - c) h1.2 (by rw [List.length_drop]; omega) (okT_old _ _ _ h2.2 (by have := hk.2.1; rw [List.length_drop]; omega) (fun a r e => by
        have h3 := hk.2.1
        have h4 : (p.drop c).length = r.length + 1 := by rw [e]; rfl
        rw [List.length_drop] at h4
        exact (okT_join r t _ ((fit_cons a r).1 (e ▸ h2.2)).2 (by omega) hk.2.2.1.1 (by rw [show n - c - 1 - r.length = n - p.length from by omega]; exact hk.2.2.2)).1))
      exact okT_join _ _ n h1.1 (by omega) hpt.2 (by rw [hlt]; exact hpt.1)
  | .br w kids, q, v, n, hk, hq, hl => by
    cases q with
    | nil => exact ⟨hk, by simp [putT]⟩
    | cons a r =>
      have h1 := (fit_cons a r).1 hq
      simp only [List.length_cons] at hl
      refine ⟨fun i => ?_, by simp [putT]⟩
      simp only [updT]
      by_cases h : i = a.toNat
      · rw [if_pos h]
        have hka : okT (kids a.toNat) (n - 1) := by
          rcases hk a.toNat with h2 | h2
          · rw [h2]; trivial
          · exact h2.2.2
        exact .inr ⟨by omega, by omega, (okT_put (kids a.toNat) r v (n - 1) hka h1.2 (by omega)).1⟩
      · rw [if_neg h]; exact hk i

theorem u8_of (a : UInt8) : UInt8.ofNat a.toNat = a := by simp
theorem u8_to (i : Nat) (h : i < 16) : (UInt8.ofNat i).toNat = i := by
  rw [UInt8.toNat_ofNat']; omega
theorem rp_mem : ∀ (t : Tr) (n : Nat), okT t n → ∀ q v, (q, v) ∈ rp t ↔ look t q = v ∧ v ≠ []
  | .nil, n, _, q, v => by simp [rp, look]
  | .leaf p w, n, _, q, v => by
    simp only [rp, look]
    by_cases hw : w = []
    · subst hw; simp
    · rw [if_neg hw]
      simp only [List.mem_singleton, Prod.mk.injEq]
      by_cases h : q = p
      · subst h; simp; exact ⟨fun h => ⟨h.symm, h ▸ hw⟩, fun h => h.1.symm⟩
      · simp [h]
  | .ext p t, n, hk, q, v => by
    have ih := rp_mem t _ hk.2.2.2
    simp only [rp, look, List.mem_map, Prod.mk.injEq]
    constructor
    · rintro ⟨⟨x, y⟩, hm, rfl, rfl⟩
      have := (ih x y).1 hm
      simp [this]
    · rintro ⟨h1, h2⟩
      by_cases hp : q.take p.length = p
      · rw [if_pos hp] at h1
        refine ⟨(q.drop p.length, v), (ih _ _).2 ⟨h1, h2⟩, ?_, rfl⟩
        show p ++ q.drop p.length = q
        conv => rhs; rw [← List.take_append_drop p.length q, hp]
      · rw [if_neg hp] at h1; exact absurd h1.symm h2
  | .br w kids, n, hk, q, v => by
    have ih := fun i (h : kids i ≠ .nil) => rp_mem (kids i) (n - 1) ((hk i).resolve_left h).2.2
    simp only [rp, List.mem_append, List.mem_flatMap, List.mem_range, List.mem_map, Prod.mk.injEq]
    cases q with
    | nil =>
      simp only [look]
      constructor
      · rintro (h | ⟨i, _, x, _, h, _⟩)
        · by_cases hw : w = []
          · simp [hw] at h
          · rw [if_neg hw] at h; simp at h; exact ⟨h.symm, h ▸ hw⟩
        · cases h
      · rintro ⟨rfl, h2⟩
        exact .inl (by simp [h2])
    | cons a r =>
      simp only [look]
      constructor
      · rintro (h | ⟨i, hi, ⟨x, y⟩, hm, h, rfl⟩)
        · by_cases hw : w = []
          · simp [hw] at h
          · rw [if_neg hw] at h; simp at h
        · injection h with h1 h2
          simp only at h2
          subst h2
          have hne : kids i ≠ .nil := fun e => by rw [e] at hm; simp [rp] at hm
          have := (ih i hne x y).1 hm
          rw [← h1, u8_to i hi]
          exact this
      · rintro ⟨h1, h2⟩
        have hne : kids a.toNat ≠ .nil := fun e => by rw [e] at h1; simp [look] at h1; exact h2 h1
        exact .inr ⟨a.toNat, ((hk _).resolve_left hne).1, (r, v), (ih _ hne _ _).2 ⟨h1, h2⟩, by simp, rfl⟩

theorem lt_app (p x y : Bs) (h : x < y) : p ++ x < p ++ y := by
  induction p with
  | nil => exact h
  | cons a r ih => rw [List.cons_append, List.cons_append, List.cons_lt_cons_iff]; exact .inr ⟨rfl, ih⟩
theorem rp_sorted : ∀ (t : Tr), (rp t).Pairwise fun x y => x.1 < y.1
  | .nil => List.Pairwise.nil
  | .leaf p v => by unfold rp; split <;> simp
  | .ext p t => by
    unfold rp
    rw [List.pairwise_map]
    exact (rp_sorted t).imp fun h => lt_app p _ _ h
  | .br v kids => by
    have ih := fun i => rp_sorted (kids i)
    unfold rp
    rw [List.pairwise_append]
    refine ⟨by split <;> simp, ?_, ?_⟩
    · rw [List.pairwise_flatMap]
      refine ⟨fun i _ => ?_, ?_⟩
      · rw [List.pairwise_map]
        exact (ih i).imp fun h => by rw [List.cons_lt_cons_iff]; exact .inr ⟨rfl, h⟩
      · have hr : (List.range 16).Pairwise (· < ·) := List.pairwise_lt_range
        refine (List.Pairwise.and_mem.1 hr).imp fun {i j} h => ?_
        obtain ⟨hi, hj, hlt⟩ := h
        rw [List.mem_range] at hi hj
        intro x hx y hy
        simp only [List.mem_map] at hx hy
        obtain ⟨a, _, rfl⟩ := hx
        obtain ⟨b, _, rfl⟩ := hy
        rw [List.cons_lt_cons_iff]
        left
        rw [UInt8.lt_iff_toNat_lt, u8_to i hi, u8_to j hj]
        exact hlt
    · intro x hx y hy
      by_cases hv : v = []
      · simp [hv] at hx
      · rw [if_neg hv, List.mem_singleton] at hx
        subst hx
        simp only [List.mem_flatMap, List.mem_map] at hy
        obtain ⟨i, _, b, _, rfl⟩ := hy
        exact List.nil_lt_cons _ _

/-! ### lists of items that rise -/
def Rise (l : List It) : Prop := l.Pairwise fun x y => x.1 < y.1
def insI (k v : Bs) : List It → List It
  | [] => [(k, v)]
  | x :: r => if x.1 < k then x :: insI k v r else if x.1 = k then (k, v) :: r else (k, v) :: x :: r
theorem rise_eq : ∀ (a b : List It), Rise a → Rise b → (∀ x, x ∈ a ↔ x ∈ b) → a = b
  | [], [], _, _, _ => rfl
  | [], y :: s, _, _, h => absurd ((h y).2 (by simp)) (by simp)
  | x :: r, [], _, _, h => absurd ((h x).1 (by simp)) (by simp)
  | x :: r, y :: s, ha, hb, h => by
    unfold Rise at ha hb
    rw [List.pairwise_cons] at ha hb
    have hxy : x = y := by
      rcases List.mem_cons.1 ((h x).1 (by simp)) with h1 | h1
      · exact h1
      · rcases List.mem_cons.1 ((h y).2 (by simp)) with h2 | h2
        · exact h2.symm
        · exact absurd (List.lt_trans (hb.1 x h1) (ha.1 y h2)) (List.lt_irrefl _)
    subst hxy
    rw [rise_eq r s ha.2 hb.2 (fun z => ⟨fun hz => by
      rcases List.mem_cons.1 ((h z).1 (by simp [hz])) with h1 | h1
      · subst h1; exact absurd (ha.1 z hz) (List.lt_irrefl _)
      · exact h1, fun hz => by
      rcases List.mem_cons.1 ((h z).2 (by simp [hz])) with h1 | h1
      · subst h1; exact absurd (hb.1 z hz) (List.lt_irrefl _)
      · exact h1⟩)]
theorem insI_mem (k v : Bs) : ∀ (l : List It), Rise l → ∀ y, y ∈ insI k v l ↔ y = (k, v) ∨ (y ∈ l ∧ y.1 ≠ k)
  | [], _, y => by simp [insI]
  | x :: r, h, y => by
    unfold Rise at h
    rw [List.pairwise_cons] at h
    have ih := insI_mem k v r h.2 y
    unfold insI
    by_cases h1 : x.1 < k
    · rw [if_pos h1, List.mem_cons, ih, List.mem_cons]
      have hx : y = x → y.1 ≠ k := fun e e2 => by subst e; rw [e2] at h1; exact List.lt_irrefl _ h1
      constructor
      · rintro (h | h | h)
        · exact .inr ⟨.inl h, hx h⟩
        · exact .inl h
        · exact .inr ⟨.inr h.1, h.2⟩
      · rintro (h | ⟨h | h, h2⟩)
        · exact .inr (.inl h)
        · exact .inl h
        · exact .inr (.inr ⟨h, h2⟩)
    · rw [if_neg h1]
      by_cases h2 : x.1 = k
      · rw [if_pos h2, List.mem_cons, List.mem_cons]
        constructor
        · rintro (h3 | h3)
          · exact .inl h3
          · exact .inr ⟨.inr h3, fun e => by have := h.1 y h3; rw [e, h2] at this; exact List.lt_irrefl _ this⟩
        · rintro (h3 | ⟨h3 | h3, h4⟩)
          · exact .inl h3
          · subst h3; exact absurd h2 h4
          · exact .inr h3
      · rw [if_neg h2, List.mem_cons]
        have h3 : k < x.1 := by
          rcases Classical.em (k < x.1) with h3 | h3
          · exact h3
          · exact absurd (List.le_antisymm (List.not_lt.1 h3) (List.not_lt.1 h1)) h2
        constructor
        · rintro (h4 | h4)
          · exact .inl h4
          · refine .inr ⟨h4, fun e => ?_⟩
            rcases List.mem_cons.1 h4 with h5 | h5
            · subst h5; exact h2 e
            · have := List.lt_trans h3 (h.1 y h5); rw [e] at this; exact List.lt_irrefl _ this
        · rintro (h4 | h4)
          · exact .inl h4
          · exact .inr h4.1
theorem insI_rise (k v : Bs) : ∀ (l : List It), Rise l → Rise (insI k v l)
  | [], _ => by simp [insI, Rise]
  | x :: r, h => by
    have hr : Rise r := by unfold Rise at h ⊢; exact (List.pairwise_cons.1 h).2
    have ih := insI_rise k v r hr
    have hm := insI_mem k v r hr
    unfold Rise at h
    rw [List.pairwise_cons] at h
    unfold insI
    by_cases h1 : x.1 < k
    · rw [if_pos h1]
      unfold Rise at ih ⊢
      rw [List.pairwise_cons]
      refine ⟨fun y hy => ?_, ih⟩
      rcases (hm y).1 hy with h2 | h2
      · subst h2; exact h1
      · exact h.1 y h2.1
    · rw [if_neg h1]
      by_cases h2 : x.1 = k
      · rw [if_pos h2]
        unfold Rise
        rw [List.pairwise_cons]
        exact ⟨fun y hy => by have := h.1 y hy; rw [h2] at this; exact this, h.2⟩
      · rw [if_neg h2]
        have h3 : k < x.1 := by
          rcases Classical.em (k < x.1) with h3 | h3
          · exact h3
          · exact absurd (List.le_antisymm (List.not_lt.1 h3) (List.not_lt.1 h1)) h2
        unfold Rise
        rw [List.pairwise_cons, List.pairwise_cons]
        refine ⟨fun y hy => ?_, h⟩
        rcases List.mem_cons.1 hy with h4 | h4
        · subst h4; exact h3
        · exact List.lt_trans h3 (h.1 y h4)
theorem insI_len (k v : Bs) : ∀ (l : List It), (insI k v l).length ≤ l.length + 1
  | [] => by simp [insI]
  | x :: r => by
    have := insI_len k v r
    unfold insI
    split
    · simp; omega
    · split <;> simp
theorem rp_put (t : Tr) (n : Nat) (hk : okT t n) (q v : Bs) (hq : fit q = true) (hl : q.length ≤ n) (hv : v ≠ []) : rp (putT t q v) = insI q v (rp t) := by
  refine rise_eq _ _ (rp_sorted _) (insI_rise _ _ _ (rp_sorted t)) ?_
  rintro ⟨x, y⟩
  rw [rp_mem _ n (okT_put t q v n hk hq hl).1, insI_mem _ _ _ (rp_sorted t), rp_mem t n hk, look_put]
  by_cases h : x = q
  · subst h
    simp
    constructor
    · rintro ⟨rfl, h⟩; rfl
    · rintro rfl; exact ⟨rfl, hv⟩
  · simp [h]

/-! ### keys and paths -/
theorem ofP_cons (c : UInt8) (r : Bs) : ofP (c :: r) = UInt8.ofNat (c.toNat / 16) :: UInt8.ofNat (c.toNat % 16) :: ofP r := by simp [ofP]
theorem nib_hi (c : UInt8) : (UInt8.ofNat (c.toNat / 16)).toNat = c.toNat / 16 := by
  have := c.toNat_lt
  rw [UInt8.toNat_ofNat']; omega
theorem nib_lo (c : UInt8) : (UInt8.ofNat (c.toNat % 16)).toNat = c.toNat % 16 := by
  rw [UInt8.toNat_ofNat']; omega
theorem ofP_lt : ∀ (a b : Bs), ofP a < ofP b ↔ a < b
  | [], [] => by simp [ofP]
  | [], d :: s => by simp [ofP_cons]; simp [ofP]
  | c :: r, [] => by simp [ofP]
  | c :: r, d :: s => by
    rw [ofP_cons, ofP_cons, List.cons_lt_cons_iff, List.cons_lt_cons_iff, List.cons_lt_cons_iff, ofP_lt r s]
    simp only [UInt8.lt_iff_toNat_lt, ← UInt8.toNat_inj, nib_hi, nib_lo]
    constructor
    · rintro (h | ⟨h1, h | ⟨h2, h⟩⟩)
      · left; omega
      · left; omega
      · right; exact ⟨by omega, h⟩
    · rintro (h | ⟨h1, h⟩)
      · by_cases h2 : c.toNat / 16 < d.toNat / 16
        · exact .inl h2
        · exact .inr ⟨by omega, .inl (by omega)⟩
      · exact .inr ⟨by omega, .inr ⟨by omega, h⟩⟩
theorem ofP_inj {a b : Bs} (h : ofP a = ofP b) : a = b := by
  rcases Classical.em (a < b) with h1 | h1
  · have := (ofP_lt a b).2 h1; rw [h] at this; exact absurd this (List.lt_irrefl _)
  · rcases Classical.em (b < a) with h2 | h2
    · have := (ofP_lt b a).2 h2; rw [h] at this; exact absurd this (List.lt_irrefl _)
    · exact List.le_antisymm (List.not_lt.1 h2) (List.not_lt.1 h1)
theorem ofP_fit (s : Bs) : fit (ofP s) = true := by
  induction s with
  | nil => rfl
  | cons c r ih =>
    have := c.toNat_lt
    rw [ofP_cons, fit_cons, fit_cons, nib_hi, nib_lo]
    exact ⟨by omega, by omega, ih⟩
theorem joined_ofP : ∀ (s : Bs), joined (ofP s) = s
  | [] => rfl
  | c :: r => by
    rw [ofP_cons, joined, nib_hi, nib_lo, joined_ofP r]
    congr 1
    rw [show c.toNat / 16 * 16 + c.toNat % 16 = c.toNat from by omega]
    simp
/-- A path's key. -/
def keyP (p : Bs) : Bs := if fit p = true ∧ p.length % 2 = 0 then joined p else []
theorem keyP_ofP (s : Bs) : keyP (ofP s) = s := by
  unfold keyP
  rw [if_pos ⟨ofP_fit s, by rw [ofP_len]; omega⟩, joined_ofP]
def pathsI (l : List It) : List It := l.map fun x => (ofP x.1, x.2)
theorem insI_paths (k v : Bs) : ∀ (l : List It), insI (ofP k) v (pathsI l) = pathsI (insI k v l)
  | [] => rfl
  | x :: r => by
    have ih := insI_paths k v r
    unfold pathsI at ih ⊢
    simp only [List.map_cons, insI, ofP_lt]
    by_cases h1 : x.1 < k
    · rw [if_pos h1, if_pos h1, ih, List.map_cons]
    · rw [if_neg h1, if_neg h1]
      by_cases h2 : x.1 = k
      · rw [if_pos (by rw [h2]), if_pos h2, List.map_cons]
      · rw [if_neg (fun e => h2 (ofP_inj e)), if_neg h2, List.map_cons, List.map_cons]
/-- A trie has these items. -/
structure RepT (t : Tr) (L : List It) : Prop where
  ok : okT t 16
  items : rp t = pathsI L
theorem RepT.start : RepT .nil [] := ⟨trivial, rfl⟩
theorem RepT.put {t : Tr} {L : List It} (h : RepT t L) (k v : Bs) (hk : k.length ≤ 8) (hv : v ≠ []) : RepT (putT t (ofP k) v) (insI k v L) := by
  have hl : (ofP k).length ≤ 16 := by rw [ofP_len]; omega
  exact ⟨(okT_put t _ v 16 h.ok (ofP_fit k) hl).1, by rw [rp_put t 16 h.ok _ v (ofP_fit k) hl hv, h.items, insI_paths]⟩
theorem RepT.len {t : Tr} {L : List It} (h : RepT t L) : (rp t).length = L.length := by rw [h.items]; simp [pathsI]
theorem RepT.out {t : Tr} {L : List It} (h : RepT t L) : (rp t).map (fun x => (keyP x.1, x.2)) = L := by
  rw [h.items, pathsI, List.map_map]
  conv => rhs; rw [← List.map_id L]
  refine List.map_congr_left fun x _ => ?_
  simp [keyP_ofP]
theorem RepT.rise {t : Tr} {L : List It} (h : RepT t L) : Rise L := by
  have := rp_sorted t
  rw [h.items, pathsI, List.pairwise_map] at this
  exact this.imp fun h => (ofP_lt _ _).1 h
end Pl
end Go.Proofs.YtdaihimdkgmboaaDoor

/- The knots of a trie as they lie in memory. -/
set_option linter.unusedSimpArgs false
set_option linter.unusedVariables false
namespace Go.Proofs.YtdaihimdkgmboaaDoor
open Go.RowKit Pl

/-! ### what a knot says -/
def kindT : Tr → Int
  | .nil => 0
  | .leaf _ _ => 1
  | .ext _ _ => 2
  | .br _ _ => 3
def pathT : Tr → Bs
  | .leaf p _ => p
  | .ext p _ => p
  | _ => []
def valT : Tr → Bs
  | .leaf _ v => v
  | .br v _ => v
  | _ => []
def kidsOf : Tr → Nat → Tr
  | .ext _ t => updT noT 0 t
  | .br _ kids => kids
  | _ => noT
def kidF (f : Nat → Bs) : Nat → Bs := fun i => if i < 16 then f i else []
def sumT : Tr → Bs
  | .nil => []
  | .leaf p v => dgP 1 p v (kidF fun _ => [])
  | .ext p t => dgP 2 p [] (kidF fun i => if i = 0 then sumT t else [])
  | .br v kids => dgP 3 [] v (kidF fun i => sumT (kids i))
theorem sumT_knot (t : Tr) (h : t ≠ .nil) : sumT t = dgP (kindT t) (pathT t) (valT t) (kidF fun i => sumT (kidsOf t i)) := by
  cases t with
  | nil => exact absurd rfl h
  | leaf p v => simp [sumT, kindT, pathT, valT, kidsOf, noT]
  | ext p t =>
    simp only [sumT, kindT, pathT, valT, kidsOf]
    congr 2
    funext i
    simp only [updT]
    split
    · rfl
    · simp [noT, sumT]
  | br v kids => simp [sumT, kindT, pathT, valT, kidsOf]
def textT (t : Tr) : Bs := (encR (kindT t) (pathT t) (valT t) (kidF fun i => sumT (kidsOf t i))).1
/-- How many items the first i kids have. -/
def cntT (f : Nat → Tr) : Nat → Nat
  | 0 => 0
  | i + 1 => cntT f i + (rp (f i)).length
theorem cntT_flat (f : Nat → Tr) (g : Nat → It → It) : ∀ n, ((List.range n).flatMap fun i => (rp (f i)).map (g i)).length = cntT f n
  | 0 => rfl
  | n + 1 => by
    rw [List.range_succ, List.flatMap_append, List.length_append, cntT_flat f g n, cntT]
    simp
theorem cntT_no : ∀ n, cntT noT n = 0
  | 0 => rfl
  | n + 1 => by rw [cntT, cntT_no n]; rfl
theorem cntT_one (t : Tr) : ∀ n, cntT (updT noT 0 t) (n + 1) = (rp t).length
  | 0 => by simp [cntT, updT]
  | n + 1 => by rw [cntT, cntT_one t n]; simp [updT, noT, rp]
def ownN (v : Bs) : Nat := if v = [] then 0 else 1
theorem rp_len (t : Tr) (h : t ≠ .nil) : (rp t).length = cntT (kidsOf t) 16 + ownN (valT t) := by
  cases t with
  | nil => exact absurd rfl h
  | leaf p v =>
    simp only [rp, kidsOf, valT, cntT_no, ownN]
    split <;> simp [*]
  | ext p t =>
    simp only [rp, kidsOf, valT, ownN, List.length_map]
    rw [cntT_one]; simp
  | br v kids =>
    simp only [rp, kidsOf, valT, List.length_append, ownN]
    rw [cntT_flat kids (fun i x => (UInt8.ofNat i :: x.1, x.2)) 16, Nat.add_comm]
    congr 1
    split <;> simp [*]
/-- A count as an int. -/
def w64 (n : Nat) : Int := IntKind.i64.wrap n
theorem w64_add (a b : Nat) : IntKind.i64.wrap (w64 a + w64 b) = w64 (a + b) := by
  unfold w64
  simp only [IntKind.wrap_i64]
  omega
theorem w64_one (a : Nat) : IntKind.i64.wrap (w64 a + 1) = w64 (a + 1) := by
  unfold w64
  simp only [IntKind.wrap_i64]
  omega
theorem w64_zero : w64 0 = 0 := by
  unfold w64
  simp [IntKind.wrap_i64]
theorem w64_small (a : Nat) (h : a < 9223372036854775808) : w64 a = a := by
  unfold w64
  simp only [IntKind.wrap_i64]
  omega

/-! ### how it lies -/
abbrev Ps := Nat → Option Nat
def ptV : Option Nat → Value
  | none => .pointer none
  | some b => .pointer (some ⟨b, 0, none⟩)
/-- The cells of sixteen pointers, of a knot. -/
def pk (ps : Ps) : List Value := (List.range 16).map fun i => ptV (ps i)
def kn (kind : Int) (path val : Bs) (kid : Nat → Bs) (ps : Ps) (text sum : Bs) (many : Int) : List Value :=
  nd kind path val kid ++ (pk ps ++ [.string ⟨List.toArray (text)⟩, .string ⟨List.toArray (sum)⟩, .int .i64 (many)])
theorem pk_len (ps : Ps) : (pk ps).length = 16 := by simp [pk]
theorem kn_len (kind : Int) (path val : Bs) (kid : Nat → Bs) (ps : Ps) (text sum : Bs) (many : Int) : (kn kind path val kid ps text sum many).length = 38 := by
  simp [kn, nd_len, pk_len]
theorem pk_at (ps : Ps) (k : Nat) (hk : k < 16) : (pk ps)[k]? = some (ptV (ps k)) := by simp [pk, hk]
def noP : Ps := fun _ => none
def updP (f : Ps) (i : Nat) (x : Option Nat) : Ps := fun j => if j = i then x else f j
/-- A trie lies at a pointer. -/
inductive KAt (w : World) : Tr → Option Nat → Prop
  | nil : KAt w .nil none
  | knot (t : Tr) (b : Nat) (ps : Ps) (h : t ≠ .nil) (hk : ∀ i, i < 16 → KAt w (kidsOf t i) (ps i))
      (hB : Blk w b (kn (kindT t) (pathT t) (valT t) (kidF fun i => sumT (kidsOf t i)) ps (textT t) (sumT t) (w64 (rp t).length)).toArray) : KAt w t (some b)
theorem KAt.keep {W w : World} (hb : Below W.heap.size W w) {t : Tr} {p : Option Nat} (h : KAt W t p) : KAt w t p := by
  induction h with
  | nil => exact .nil
  | knot t b ps h hk hB ih => exact .knot t b ps h ih (hB.keep hb)
theorem KAt.none' {w : World} {t : Tr} (h : KAt w t none) : t = .nil := by cases h; rfl
theorem KAt.some' {w : World} {t : Tr} {b : Nat} (h : KAt w t (some b)) : t ≠ .nil ∧ ∃ ps, (∀ i, i < 16 → KAt w (kidsOf t i) (ps i)) ∧
    Blk w b (kn (kindT t) (pathT t) (valT t) (kidF fun i => sumT (kidsOf t i)) ps (textT t) (sumT t) (w64 (rp t).length)).toArray := by
  cases h with
  | knot _ _ ps h hk hB => exact ⟨h, ps, hk, hB⟩
theorem KAt.isNil {w : World} {p : Option Nat} (h : KAt w .nil p) : p = none := by
  cases h with
  | nil => rfl
  | knot _ _ _ h _ _ => exact absurd rfl h
theorem KAt.isKnot {w : World} {t : Tr} {p : Option Nat} (h : KAt w t p) (hn : t ≠ .nil) : ∃ b, p = some b := by
  cases h with
  | nil => exact absurd rfl hn
  | knot _ b _ _ _ _ => exact ⟨b, rfl⟩
theorem kat_no (w : World) : ∀ i, i < 16 → KAt w (noT i) (noP i) := fun _ _ => .nil
theorem kat_upd {w : World} {f : Nat → Tr} {ps : Ps} (h : ∀ i, i < 16 → KAt w (f i) (ps i)) (k : Nat) {t : Tr} {p : Option Nat} (ht : KAt w t p) :
    ∀ i, i < 16 → KAt w (updT f k t i) (updP ps k p i) := by
  intro i hi
  unfold updT updP
  split
  · exact ht
  · exact h i hi
end Go.Proofs.YtdaihimdkgmboaaDoor

/- Walks of layer 10: a knot is tied. -/
set_option linter.unusedSimpArgs false
set_option linter.unusedVariables false
namespace Go.Proofs.YtdaihimdkgmboaaDoor
open Go.RowKit Pl

theorem row16p : RowT Tryd.prog 77 16 := RowT.mk' Tryd.underlying77 rfl (by kernel_rfl)
theorem wpList_bTo {P : Program} {Q : Exit → Act → World → Prop} {ops : Array Oper} {rest : List Oper} {o : Oper} {a : Act} {w : World} (hg : o.guard = none) (t : TypeId) (parts : Array (Nat × Operand)) (ho : o.op = .build t parts)
    (cells : Array Value) (hf : P.built t (parts.map fun (i, x) => (i, a.eval x)).toList = some cells)
    (h : wpList P ops Q rest (a.put o.dst (.agg cells)) w) : wpList P ops Q (o :: rest) a w := by
  refine wpList_build hg t parts ho (by rw [hf]; rfl) ?_
  rw [hf]
  exact h
theorem built_kn (kind : Int) (path val : Bs) (ps : Ps) : (Tryd.prog).built 79 [(0, .agg (nd kind path val noK).toArray), (1, .agg (pk ps).toArray)] = some (kn kind path val noK ps [] [] 0).toArray := by kernel_rfl
theorem w64_add' (a b : Nat) : wrap64 (w64 a + w64 b) = w64 (a + b) := by rw [← w64_add]; simp only [wrap64, IntKind.wrap_i64]
theorem w64_one' (a : Nat) : wrap64 (w64 a + 1) = w64 (a + 1) := by rw [← w64_one]; simp only [wrap64, IntKind.wrap_i64]
/-- The first k sums. -/
def kidsUp (T : Nat → Tr) (k : Nat) : Nat → Bs := fun i => if i < k then sumT (T i) else []
theorem kidsUp_zero (T : Nat → Tr) : kidsUp T 0 = noK := by
  funext i
  simp [kidsUp, noK]
theorem kidsUp_succ (T : Nat → Tr) (k : Nat) : kidsUp T (k + 1) = upd (kidsUp T k) k (sumT (T k)) := by
  funext i
  simp only [kidsUp, upd]
  by_cases h : i = k
  · subst h; simp
  · rw [if_neg h]
    by_cases h2 : i < k
    · rw [if_pos h2, if_pos (by omega)]
    · rw [if_neg h2, if_neg (by omega)]
theorem kidsUp_skip (T : Nat → Tr) (k : Nat) (h : T k = .nil) : kidsUp T (k + 1) = kidsUp T k := by
  rw [kidsUp_succ, h]
  funext i
  simp only [upd, sumT]
  split
  · rename_i e; subst e; simp [kidsUp]
  · rfl
theorem kn_kid (kind : Int) (path val : Bs) (f : Nat → Bs) (ps : Ps) (t s : Bs) (m : Int) (x : Bs) : ∀ i, i < 16 → (kn kind path val f ps t s m).toArray.setIfInBounds (3 + i) (.string ⟨List.toArray (x)⟩) = (kn kind path val (upd f i x) ps t s m).toArray
  | 0, _ => rfl
  | 1, _ => rfl
  | 2, _ => rfl
  | 3, _ => rfl
  | 4, _ => rfl
  | 5, _ => rfl
  | 6, _ => rfl
  | 7, _ => rfl
  | 8, _ => rfl
  | 9, _ => rfl
  | 10, _ => rfl
  | 11, _ => rfl
  | 12, _ => rfl
  | 13, _ => rfl
  | 14, _ => rfl
  | 15, _ => rfl
  | i + 16, h => absurd h (by omega)
theorem kn_many (kind : Int) (path val : Bs) (f : Nat → Bs) (ps : Ps) (t s : Bs) (m n : Int) : (kn kind path val f ps t s m).toArray.setIfInBounds 37 (.int .i64 (n)) = (kn kind path val f ps t s n).toArray := rfl
theorem kn_text (kind : Int) (path val : Bs) (f : Nat → Bs) (ps : Ps) (t s : Bs) (m : Int) (x : Bs) : (kn kind path val f ps t s m).toArray.setIfInBounds 35 (.string ⟨List.toArray (x)⟩) = (kn kind path val f ps x s m).toArray := rfl
theorem kn_sum (kind : Int) (path val : Bs) (f : Nat → Bs) (ps : Ps) (t s : Bs) (m : Int) (x : Bs) : (kn kind path val f ps t s m).toArray.setIfInBounds 36 (.string ⟨List.toArray (x)⟩) = (kn kind path val f ps t x m).toArray := rfl
theorem kn_kid_at (kind : Int) (path val : Bs) (f : Nat → Bs) (ps : Ps) (t s : Bs) (m : Int) : ∀ i, i < 16 → (kn kind path val f ps t s m).toArray[3 + i]? = some (.string ⟨List.toArray (f i)⟩)
  | 0, _ => rfl
  | 1, _ => rfl
  | 2, _ => rfl
  | 3, _ => rfl
  | 4, _ => rfl
  | 5, _ => rfl
  | 6, _ => rfl
  | 7, _ => rfl
  | 8, _ => rfl
  | 9, _ => rfl
  | 10, _ => rfl
  | 11, _ => rfl
  | 12, _ => rfl
  | 13, _ => rfl
  | 14, _ => rfl
  | 15, _ => rfl
  | i + 16, h => absurd h (by omega)
/-- The fields of a knot's block. -/
structure KnC (w : World) (b : Nat) (kind : Int) (path val : Bs) (ps : Ps) (text sum : Bs) (many : Int) : Prop where
  kind : w.cell? ⟨b, 0, none⟩ = some (.int .i64 (kind))
  path : w.cell? ⟨b, 1, none⟩ = some (.string ⟨List.toArray (path)⟩)
  val : w.cell? ⟨b, 2, none⟩ = some (.string ⟨List.toArray (val)⟩)
  text : w.cell? ⟨b, 35, none⟩ = some (.string ⟨List.toArray (text)⟩)
  sum : w.cell? ⟨b, 36, none⟩ = some (.string ⟨List.toArray (sum)⟩)
  many : w.cell? ⟨b, 37, none⟩ = some (.int .i64 (many))
  first : w.cell? ⟨b, 19, none⟩ = some (ptV (ps 0))
theorem Blk.kn {w : World} {b : Nat} {kind : Int} {path val : Bs} {f : Nat → Bs} {ps : Ps} {t s : Bs} {m : Int} (h : Blk w b (kn kind path val f ps t s m).toArray) : KnC w b kind path val ps t s m :=
  ⟨h.cell 0, h.cell 1, h.cell 2, h.cell 35, h.cell 36, h.cell 37, h.cell 19⟩
theorem nd_pre (kind : Int) (path val : Bs) (f : Nat → Bs) (ps : Ps) (t s : Bs) (m : Int) (j : Nat) (v : Value) (h : (nd kind path val f)[j]? = some v) : (kn kind path val f ps t s m).toArray[j]? = some v := by
  unfold Go.Proofs.YtdaihimdkgmboaaDoor.kn
  rw [List.getElem?_toArray, List.getElem?_append_left]
  · exact h
  · rcases Nat.lt_or_ge j (nd kind path val f).length with h1 | h1
    · exact h1
    · rw [List.getElem?_eq_none h1] at h; cases h
theorem pk_pre (kind : Int) (path val : Bs) (f : Nat → Bs) (ps : Ps) (t s : Bs) (m : Int) (j : Nat) (v : Value) (h : (pk ps)[j]? = some v) : (kn kind path val f ps t s m).toArray[19 + j]? = some v := by
  unfold Go.Proofs.YtdaihimdkgmboaaDoor.kn
  rw [List.getElem?_toArray, List.getElem?_append_right (by rw [nd_len]; omega), nd_len, show 19 + j - 19 = j from by omega, List.getElem?_append_left]
  · exact h
  · rcases Nat.lt_or_ge j (pk ps).length with h1 | h1
    · exact h1
    · rw [List.getElem?_eq_none h1] at h; cases h
theorem kn_node {w : World} {b : Nat} {kind : Int} {path val : Bs} {f : Nat → Bs} {ps : Ps} {t s : Bs} {m : Int} (h : Blk w b (kn kind path val f ps t s m).toArray) : w.rangeAt b 0 (nd kind path val f) := by
  intro j v hv
  rw [Nat.zero_add, h.cell j]
  exact nd_pre _ _ _ _ _ _ _ _ j v hv
theorem kn_ptrs {w : World} {b : Nat} {kind : Int} {path val : Bs} {f : Nat → Bs} {ps : Ps} {t s : Bs} {m : Int} (h : Blk w b (kn kind path val f ps t s m).toArray) : w.rangeAt b 19 (pk ps) := by
  intro j v hv
  rw [h.cell (19 + j)]
  exact pk_pre _ _ _ _ _ _ _ _ j v hv
theorem pk_info : (Tryd.prog.info? 77).map (·.size) = some 16 := by kernel_rfl
section
variable {ops : Array Oper} {rest : List Oper} {op : Oper} {a : Act} {w : World} {Q : Exit → Act → World → Prop}
/-- A knot's node is loaded. -/
theorem wpList_knNode (hgd : op.guard = none) (x : Operand) (ho : op.op = .load 76 x) {b : Nat} (hx : a.eval x = .pointer (some ⟨b, 0, none⟩)) {kind : Int} {path val : Bs} {f : Nat → Bs} {ps : Ps} {t s : Bs} {m : Int} (hB : Blk w b (kn kind path val f ps t s m).toArray)
    (h : wpList Tryd.prog ops Q rest (a.put op.dst (.agg (nd kind path val f).toArray)) w) : wpList Tryd.prog ops Q (op :: rest) a w :=
  wpList_load_mid hgd 76 x ho b 0 hx (nd kind path val f) _ (kn_node hB) Tryd.underlying76 rfl (by rw [nd_len]; exact nd_info) h
/-- Its pointers are. -/
theorem wpList_knPtrs (hgd : op.guard = none) (x : Operand) (ho : op.op = .load 77 x) {b : Nat} (hx : a.eval x = .pointer (some ⟨b, 19, none⟩)) {kind : Int} {path val : Bs} {f : Nat → Bs} {ps : Ps} {t s : Bs} {m : Int} (hB : Blk w b (kn kind path val f ps t s m).toArray)
    (h : wpList Tryd.prog ops Q rest (a.put op.dst (.agg (pk ps).toArray)) w) : wpList Tryd.prog ops Q (op :: rest) a w :=
  wpList_load_mid hgd 77 x ho b 19 hx (pk ps) _ (kn_ptrs hB) Tryd.underlying77 rfl (by rw [pk_len]; exact pk_info) h
end
@[go_sem, simp] theorem ptV_none : ptV none = .pointer none := rfl
@[go_sem, simp] theorem ptV_some (b : Nat) : ptV (some b) = .pointer (some ⟨b, 0, none⟩) := rfl
theorem infoPtr : (Tryd.prog.info? 70).map (fun i => (i.zero, i.size, i.bytes)) = some (some (.pointer none), 1, 8) := by kernel_rfl
theorem pk_index (ps : Ps) (k : Nat) (hk : k < 16) (w : World) : (Instr.index 77 (.agg (pk ps).toArray) (.int .i64 (k : Int))).run Tryd.prog w = .ok (ptV (ps k)) w := by
  obtain ⟨i0, hi, _, hs, _⟩ := info_parts infoPtr
  have hpart : (part 70 (pk ps).toArray k).run Tryd.prog w = .ok (ptV (ps k)) w := by
    unfold part
    simp [isAgg, run_underlying Tryd.underlying70, Sem.run_bind, pk_at ps k hk]
  have hsz : (Go.sizeOf 70).run Tryd.prog w = .ok 1 w := by simp [Go.sizeOf, typeInfo, hi, hs]
  have hk' : (0 : Int) ≤ (k : Int) ∧ (k : Int) < 16 := by omega
  simp [Instr.index, asIntOf, run_underlying Tryd.underlying77, hk', hsz, hpart, Sem.run_bind]
  intro h
  omega
/-- What a kid's pointer tells. -/
theorem kat_kid {w : World} {t : Tr} {p : Option Nat} (h : KAt w t p) : (p = none ∧ t = .nil) ∨ ∃ c, p = some c ∧ t ≠ .nil ∧ c < w.heap.size ∧ w.cell? ⟨c, 36, none⟩ = some (.string ⟨List.toArray (sumT t)⟩) ∧ w.cell? ⟨c, 37, none⟩ = some (.int .i64 (w64 (rp t).length)) := by
  cases h with
  | nil => exact .inl ⟨rfl, rfl⟩
  | knot _ b ps h hk hB => exact .inr ⟨b, rfl, h, hB.lt, hB.kn.sum, hB.kn.many⟩

set_option maxRecDepth 100000 in
set_option maxHeartbeats 2000000 in
theorem tied_any (kind : Int) (path val : Bs) (hp : path.length ≤ 1000) (T : Nat → Tr) (ps : Ps) (w : World) (hk : KT w) (hT : ∀ i, i < 16 → KAt w (T i) (ps i)) :
    Calls Tryd.prog 118 #[.agg (nd kind path val noK).toArray, .agg (pk ps).toArray] w fun e w' => ∃ b, e = .returned (.pointer (some ⟨b, 0, none⟩)) ∧ Below w.heap.size w w' ∧
      Blk w' b (kn kind path val (kidF fun i => sumT (T i)) ps (encR kind path val (kidF fun i => sumT (T i))).1 (dgP kind path val (kidF fun i => sumT (T i))) (w64 (cntT T 16 + ownN val))).toArray := by
  have hB1 := Blk.new w (nd kind path val noK).toArray 76
  have hB2 := Blk.new (w.alloc (.cells (nd kind path val noK).toArray 76)) (pk ps).toArray 77
  have hsz : (w.alloc (.cells (nd kind path val noK).toArray 76)).heap.size = w.heap.size + 1 := by simp
  rw [hsz] at hB2
  have hB1' := hB1.alloc (.cells (pk ps).toArray 77)
  have hB3 := Blk.new ((w.alloc (.cells (nd kind path val noK).toArray 76)).alloc (.cells (pk ps).toArray 77)) (kn kind path val noK ps [] [] 0).toArray 79
  have hsz2 : ((w.alloc (.cells (nd kind path val noK).toArray 76)).alloc (.cells (pk ps).toArray 77)).heap.size = w.heap.size + 1 + 1 := by simp
  rw [hsz2] at hB3
  have hB2' := hB2.alloc (.cells (kn kind path val noK ps [] [] 0).toArray 79)
  have hB1'' := hB1'.alloc (.cells (kn kind path val noK ps [] [] 0).toArray 79)
  have hb0 : Below w.heap.size w ((((w.alloc (.cells (nd kind path val noK).toArray 76)).alloc (.cells (pk ps).toArray 77))).alloc (.cells (kn kind path val noK ps [] [] 0).toArray 79)) :=
    Below.allocS (Below.allocS (Below.allocS (Below.refl _ _) _) _) _
  rw [← kidsUp_zero T] at hB3
  rw [← w64_zero] at hB3
  clear hsz hsz2
  go_enter Tryd.func118, Tryd.ntmps118
  go_wp2_with (first
    | (refine wpList_node rfl (.tmp 2) rfl rfl hB1' ?_)
    | (refine wpList_rowLoad row16p rfl (.tmp 3) rfl rfl (pk_len ps) hB2 ?_)
    | (refine wpList_bTo rfl 79 _ rfl (kn kind path val noK ps [] [] 0).toArray (by kernel_rfl) ?_)
    | (refine wpList_rowLoad row16p rfl (.tmp 3) rfl rfl (pk_len ps) hB2' ?_)
    | fail)
  clear hB1 hB1' hB2 hB2'
  go_loopw [13] (fun s13 wr => ∃ k : Nat, k ≤ 16 ∧ s13 = .int .i64 k ∧ Blk wr (w.heap.size + 1 + 1) (kn kind path val (kidsUp T k) ps [] [] (w64 (cntT T k))).toArray ∧ Blk wr w.heap.size (nd kind path val noK).toArray ∧ Below w.heap.size w wr) (fun s13 _ => 16 - (intOf s13).toNat)
  case atStart => exact ⟨0, by omega, rfl, hB3, hB1'', hb0⟩
  case round =>
    obtain ⟨k, hk16, rfl, hB, hN, hb⟩ := hrel
    clear hB3 hb0 hB1''
    rename_i wr
    by_cases hlt : k < 16
    · have hlt' : (k : Int) < 16 := by omega
      have hki := pk_index ps k hlt
      rcases kat_kid (hT k hlt) with ⟨e1, e2⟩ | ⟨c, e1, e2, hc, c1, c2⟩
      · rw [e1, ptV_none] at hki
        go_wp2_with fail
        exact ⟨⟨k + 1, by omega, by go_num, by rw [kidsUp_skip T k e2, cntT, e2]; exact hB, hN, hb⟩, by simp [intOf]; omega⟩
      · rw [e1, ptV_some] at hki
        have c1' := keepC hb c1
        have c2' := keepC hb c2
        have hne : ¬ (c = w.heap.size + 1 + 1) := by omega
        have k1 := (hB.cell (3 + k)).trans (kn_kid_at _ _ _ _ _ _ _ _ k hlt)
        have k2 := hB.kn.many
        have k3 := hB.froz
        have k4 := hB.lt
        have k5 : (0 : Int) ≤ (k : Int) ∧ (k : Int) < 16 := by omega
        have HB := Lib.hid hB
        have HN := Lib.hid hN
        clear c1 c2 hB hN
        go_wp2_with fail
        go_region
        go_wp2_with fail
        go_region
        go_wp2_with fail
        have hB2 := (HB.out.set (3 + k) (.string ⟨List.toArray (sumT (T k))⟩)).set 37 (.int .i64 (wrap64 (w64 (cntT T k) + w64 (rp (T k)).length)))
        rw [kn_kid _ _ _ _ _ _ _ _ _ k hlt, kn_many, ← kidsUp_succ, w64_add'] at hB2
        rw [w64_add']
        refine ⟨⟨k + 1, by omega, by go_num, hB2.drew.drew, ((HN.out.other (a := ⟨w.heap.size + 1 + 1, 3 + k, none⟩) (by show w.heap.size + 1 + 1 ≠ w.heap.size; omega) _).other (a := ⟨w.heap.size + 1 + 1, 37, none⟩) (by show w.heap.size + 1 + 1 ≠ w.heap.size; omega) _).drew.drew, ?_⟩, by simp [intOf]; omega⟩
        exact ((hb.setCell (p := ⟨w.heap.size + 1 + 1, 3 + k, none⟩) (by show w.heap.size ≤ w.heap.size + 1 + 1; omega) _).setCell (p := ⟨w.heap.size + 1 + 1, 37, none⟩) (by show w.heap.size ≤ w.heap.size + 1 + 1; omega) _).drew.drew
    · have hke : k = 16 := by omega
      subst hke
      have n2 : wr.cell? ⟨w.heap.size, 2, none⟩ = some (.string ⟨List.toArray (val)⟩) := hN.cell 2
      by_cases hv : val = []
      · subst hv
        have HO : Hid (cntT T 16 + ownN [] = cntT T 16) := Lib.hid (by simp [ownN])
        have hBz := hB
        have hbz := hb
        clear hN
        go_wp2_with (first
          | (refine wpList_knNode rfl (.tmp 55) rfl rfl hBz ?_)
          | fail)
        refine (encode_any kind path [] (kidsUp T 16) (by omega) _).mono ?_
        rintro e w1 ⟨rfl, hb1⟩
        have hB1 := hBz.keep hb1
        have hbw := hbz.trans (hb1.mono hbz.size)
        have t1 := hB1.kn.text
        have t3 := hB1.froz
        have t4 := hB1.lt
        have hB2 := hB1.set 35 (.string ⟨List.toArray ((encR kind path [] (kidsUp T 16)).1)⟩)
        rw [kn_text] at hB2
        have hbw2 := hbw.setCell (p := ⟨w.heap.size + 1 + 1, 35, none⟩) (by show w.heap.size ≤ w.heap.size + 1 + 1; omega) (.string ⟨List.toArray ((encR kind path [] (kidsUp T 16)).1)⟩)
        have HB1 := Lib.hid hB1
        clear hB1 hBz hb1
        go_wp2_with (first
          | (refine wpList_knNode rfl (.tmp 65) rfl rfl hB2 ?_)
          | fail)
        refine (ndigest_any kind path [] (kidsUp T 16) hp _ (hk.keep hbw2)).mono ?_
        rintro e w2 ⟨rfl, hb2⟩
        have hB3 := hB2.keep hb2
        have hbw3 := hbw2.trans (hb2.mono hbw2.size)
        have u1 := hB3.kn.sum
        have u3 := hB3.froz
        have u4 := hB3.lt
        have hB4 := hB3.set 36 (.string ⟨List.toArray (dgP kind path [] (kidsUp T 16))⟩)
        rw [kn_sum] at hB4
        have HB3 := Lib.hid hB3
        clear hB3 hB2 hb2
        go_wp2_with fail
        go_ret
        exact ⟨_, rfl, hbw3.setCell (p := ⟨w.heap.size + 1 + 1, 36, none⟩) (by show w.heap.size ≤ w.heap.size + 1 + 1; omega) _, by rw [HO.out]; exact hB4⟩
      · have HO : Hid (cntT T 16 + ownN val = cntT T 16 + 1) := Lib.hid (by simp [ownN, hv])
        have hv1 : val.isEmpty = false := by simpa using hv
        have k2 := hB.kn.many
        have k3 := hB.froz
        have k4 := hB.lt
        have hw1 := w64_one' (cntT T 16)
        have hBz := hB.set 37 (.int .i64 (w64 (cntT T 16 + 1)))
        rw [kn_many] at hBz
        have hbz := hb.setCell (p := ⟨w.heap.size + 1 + 1, 37, none⟩) (by show w.heap.size ≤ w.heap.size + 1 + 1; omega) (.int .i64 (w64 (cntT T 16 + 1)))
        clear hN
        go_wp2_with (first
          | (refine wpList_knNode rfl (.tmp 55) rfl rfl hBz ?_)
          | fail)
        refine (encode_any kind path val (kidsUp T 16) (by omega) _).mono ?_
        rintro e w1 ⟨rfl, hb1⟩
        have hB1 := hBz.keep hb1
        have hbw := hbz.trans (hb1.mono hbz.size)
        have t1 := hB1.kn.text
        have t3 := hB1.froz
        have t4 := hB1.lt
        have hB2 := hB1.set 35 (.string ⟨List.toArray ((encR kind path val (kidsUp T 16)).1)⟩)
        rw [kn_text] at hB2
        have hbw2 := hbw.setCell (p := ⟨w.heap.size + 1 + 1, 35, none⟩) (by show w.heap.size ≤ w.heap.size + 1 + 1; omega) (.string ⟨List.toArray ((encR kind path val (kidsUp T 16)).1)⟩)
        have HB1 := Lib.hid hB1
        clear hB1 hBz hb1
        go_wp2_with (first
          | (refine wpList_knNode rfl (.tmp 65) rfl rfl hB2 ?_)
          | fail)
        refine (ndigest_any kind path val (kidsUp T 16) hp _ (hk.keep hbw2)).mono ?_
        rintro e w2 ⟨rfl, hb2⟩
        have hB3 := hB2.keep hb2
        have hbw3 := hbw2.trans (hb2.mono hbw2.size)
        have u1 := hB3.kn.sum
        have u3 := hB3.froz
        have u4 := hB3.lt
        have hB4 := hB3.set 36 (.string ⟨List.toArray (dgP kind path val (kidsUp T 16))⟩)
        rw [kn_sum] at hB4
        have HB3 := Lib.hid hB3
        clear hB3 hB2 hb2
        go_wp2_with fail
        go_ret
        exact ⟨_, rfl, hbw3.setCell (p := ⟨w.heap.size + 1 + 1, 36, none⟩) (by show w.heap.size ≤ w.heap.size + 1 + 1; omega) _, by rw [HO.out]; exact hB4⟩
end Go.Proofs.YtdaihimdkgmboaaDoor
