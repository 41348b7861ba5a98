/- TrieP, TrieS, Item. -/
import Derived.Test.YtjppbomngnomhaaGreatDoorMx1
set_option linter.unnecessarySimpa false
set_option linter.unusedSimpArgs false
set_option linter.unusedVariables false
set_option maxRecDepth 100000
set_option maxHeartbeats 32000000
namespace Go.Proofs.YtjppbomngnomhaaGreatDoor
namespace Pl
def common : Bs → Bs → Nat
 | a :: r, b :: s => if a = b then common r s + 1 else 0
 | _, _ => 0
theorem common_le : ∀ (a b : Bs), common a b ≤ a.length ∧ common a b ≤ b.length
 | [], _ => by simp [common]
 | _ :: _, [] => by simp [common]
 | a :: r, b :: s => by
  have := common_le r s
  unfold common
  split <;> simp <;> omega
theorem common_take : ∀ (a b : Bs), a.take (common a b) = b.take (common a b)
 | [], b => by simp [common]
 | a :: r, [] => by simp [common]
 | a :: r, b :: s => by
  unfold common
  split
  ·rename_i h; subst h; simp [common_take r s]
  ·simp
theorem common_next : ∀ (a b : Bs) (c d : UInt8) (x y : Bs), a.drop (common a b) = c :: x → b.drop (common a b) = d :: y → c ≠ d
 | [], b, c, d, x, y, h, _ => by simp at h
 | a :: r, [], c, d, x, y, _, h => by simp at h
 | a :: r, b :: s, c, d, x, y, h1, h2 => by
  unfold common at h1 h2
  split at h1
  ·rename_i h
   rw [if_pos h] at h2
   exact common_next r s c d x y (by simpa using h1) (by simpa using h2)
  ·rename_i h
   rw [if_neg h] at h2
   simp at h1 h2
   rw [← h1.1, ← h2.1]; exact h
inductive Tri where
 | nil : Tri
 | leaf (p v : Bs) : Tri
 | ext (p : Bs) (t : Tri) : Tri
 | br (v : Bs) (kids : Nat → Tri) : Tri
def look : Tri → Bs → Bs
 | .nil, _ => []
 | .leaf p v, q => if q = p then v else []
 | .ext p t, q => if q.take p.length = p then look t (q.drop p.length) else []
 | .br v kids, q => match q with
  | [] => v
  | a :: r => look (kids a.toNat) r
def joinT (p : Bs) : Tri → Tri
 | .leaf q v => if p = [] then .leaf q v else .leaf (p ++ q) v
 | .ext q t => if p = [] then .ext q t else .ext (p ++ q) t
 | t => if p = [] then t else .ext p t
def noT : Nat → Tri := fun _ => .nil
def updT (f : Nat → Tri) (i : Nat) (x : Tri) : Nat → Tri := fun j => if j = i then x else f j
def oldK (f : Bs → Tri) : Bs → Nat → Tri
 | [] => noT
 | c :: r => updT noT c.toNat (f r)
def partT (own : Bs) (kids : Nat → Tri) (q v : Bs) : Tri := match q with
 | [] => .br v kids
 | a :: r => .br own (updT kids a.toNat (.leaf r v))
def ownT (p w : Bs) (c : Nat) : Bs := if p.drop c = [] then w else []
def putT : Tri → Bs → Bs → Tri
 | .nil, q, v => .leaf q v
 | .leaf p w, q, v =>
  if common p q = p.length ∧ common p q = q.length then .leaf q v
  else joinT (q.take (common p q)) (partT (ownT p w (common p q)) (oldK (fun r => .leaf r w) (p.drop (common p q))) (q.drop (common p q)) v)
 | .ext p t, q, v =>
  if common p q = p.length then joinT p (putT t (q.drop (common p q)) v)
  else joinT (q.take (common p q)) (partT [] (oldK (fun r => joinT r t) (p.drop (common p q))) (q.drop (common p q)) v)
 | .br w kids, q, v => match q with
  | [] => .br v kids
  | a :: r => .br w (updT kids a.toNat (putT (kids a.toNat) r v))
theorem cut_eq (c : Nat) (x q : Bs) : x = q ↔ x.take c = q.take c ∧ x.drop c = q.drop c :=
 ⟨fun h => by simp [h], fun ⟨h1, h2⟩ => by rw [← List.take_append_drop c x, h1, h2, List.take_append_drop]⟩
theorem joinT_nil (t : Tri) : joinT [] t = t := by cases t <;> simp [joinT]
theorem pre_iff (p x : Bs) : x.take p.length = p ↔ ∃ r, x = p ++ r :=
 ⟨fun h => ⟨x.drop p.length, by conv => lhs; rw [← List.take_append_drop p.length x, h]⟩, by rintro ⟨r, rfl⟩; simp⟩
theorem pre_app (p q x : Bs) : x.take (p ++ q).length = p ++ q ↔ x.take p.length = p ∧ (x.drop p.length).take q.length = q := by
 rw [pre_iff, pre_iff]
 constructor
 ·rintro ⟨r, rfl⟩
  exact ⟨⟨q ++ r, by simp⟩, by simp⟩
 ·rintro ⟨⟨r, rfl⟩, h⟩
  rw [List.drop_left, pre_iff] at h
  obtain ⟨s, rfl⟩ := h
  exact ⟨s, by simp⟩
theorem look_join (p : Bs) (t : Tri) (x : Bs) : look (joinT p t) x = if x.take p.length = p then look t (x.drop p.length) else [] := by
 by_cases hp : p = []
 ·subst hp; rw [joinT_nil]; simp
 ·cases t with
  | nil => simp [joinT, hp, look]
  | leaf q v =>
   simp only [joinT, hp, look, if_false]
   by_cases h : x.take p.length = p
   ·rw [if_pos h]
    have : x = p ++ q ↔ x.drop p.length = q := by
     rw [cut_eq p.length x (p ++ q)]; simp [h]
    simp only [this]
   ·rw [if_neg h, if_neg]
    intro e; subst e; simp at h
  | ext q t =>
   simp only [joinT, hp, look, if_false]
   by_cases h : x.take p.length = p
   ·rw [if_pos h]
    by_cases h2 : (x.drop p.length).take q.length = q
    ·rw [if_pos h2, if_pos ((pre_app p q x).2 ⟨h, h2⟩)]
     simp
    ·rw [if_neg h2, if_neg (fun e => h2 ((pre_app p q x).1 e).2)]
   ·rw [if_neg h, if_neg (fun e => h ((pre_app p q x).1 e).1)]
  | br v kids => simp [joinT, hp, look]
theorem u8_eq {a b : UInt8} (h : a.toNat = b.toNat) : a = b := UInt8.toNat_inj.1 h
theorem look_part (own old q v : Bs) (f : Bs → Tri) (hd : ∀ c d r s, old = c :: r → q = d :: s → c ≠ d) (x : Bs) :
  look (partT own (oldK f old) q v) x = if x = q then v else look (.br own (oldK f old)) x := by
 cases q with
 | nil =>
  cases x with
  | nil => simp [partT, look]
  | cons b s => simp [partT, look]
 | cons a r =>
  cases x with
  | nil => simp [partT, look]
  | cons b s =>
   simp only [partT, look, updT]
   by_cases h : b.toNat = a.toNat
   ·have := u8_eq h
    subst this
    simp only [if_true, look]
    by_cases hs : s = r
    ·simp [hs]
    ·rw [if_neg hs, if_neg (by simpa using hs)]
     cases old with
     | nil => simp [oldK, noT, look]
     | cons c y =>
      have := hd c b y r rfl rfl
      simp only [oldK, updT]
      rw [if_neg (fun e => this (u8_eq e).symm)]
      simp [noT, look]
   ·rw [if_neg h, if_neg (by intro e; injection e with e _; subst e; exact h rfl)]
theorem look_oldL (w old y : Bs) : look (.br (if old = [] then w else []) (oldK (fun r => .leaf r w) old)) y = if y = old then w else [] := by
 cases old with
 | nil =>
  cases y with
  | nil => simp [look]
  | cons b s => simp [look, oldK, noT]
 | cons c r =>
  cases y with
  | nil => simp [look]
  | cons b s =>
   simp only [look, oldK, updT]
   by_cases h : b.toNat = c.toNat
   ·have := u8_eq h
    subst this
    simp [look]
   ·rw [if_neg h, if_neg (by intro e; injection e with e _; subst e; exact h rfl)]
    simp [noT, look]
theorem look_oldE (t : Tri) (old y : Bs) (ho : old ≠ []) : look (.br [] (oldK (fun r => joinT r t) old)) y = if y.take old.length = old then look t (y.drop old.length) else [] := by
 cases old with
 | nil => exact absurd rfl ho
 | cons c r =>
  cases y with
  | nil => simp [look]
  | cons b s =>
   simp only [look, oldK, updT]
   by_cases h : b.toNat = c.toNat
   ·have := u8_eq h
    subst this
    rw [if_pos rfl, look_join]
    simp
   ·rw [if_neg h, if_neg (by intro e; simp at e; exact h (by rw [e.1]))]
    simp [noT, look]
theorem look_put : ∀ (t : Tri) (q v x : Bs), look (putT t q v) x = if x = q then v else look t x
 | .nil, q, v, x => by simp [putT, look]
 | .leaf p w, q, v, x => by
  have hl := common_le p q
  have ht := common_take p q
  have hn := common_next p q
  unfold putT
  generalize common p q = c at *
  by_cases h : c = p.length ∧ c = q.length
  ·rw [if_pos h]
   have hpq : p = q := by
    rw [List.take_of_length_le (by omega), List.take_of_length_le (by omega)] at ht
    exact ht
   subst hpq
   simp only [look]
   split <;> rfl
  ·rw [if_neg h, look_join, List.length_take, Nat.min_eq_left hl.2, look_part _ _ _ _ _ (fun c d r s h1 h2 => hn c d r s h1 h2)]
   unfold ownT
   rw [look_oldL]
   simp only [look]
   by_cases h1 : x.take c = q.take c
   ·rw [if_pos h1]
    have e1 : x = q ↔ x.drop c = q.drop c := by rw [cut_eq c]; simp [h1]
    have e2 : x = p ↔ x.drop c = p.drop c := by rw [cut_eq c]; simp [h1, ht]
    simp only [e1, e2]
   ·rw [if_neg h1, if_neg (fun e => h1 (by rw [e])), if_neg (fun e => h1 (by rw [e, ht]))]
 | .ext p t, q, v, x => by
  have hl := common_le p q
  have ht := common_take p q
  have hn := common_next p q
  unfold putT
  have ih := fun r y => look_put t r v y
  generalize common p q = c at *
  by_cases h : c = p.length
  ·rw [if_pos h, look_join, ih]
   subst h
   rw [List.take_length] at ht
   simp only [look]
   by_cases h1 : x.take p.length = p
   ·rw [if_pos h1, if_pos h1]
    have e1 : x = q ↔ x.drop p.length = q.drop p.length := by rw [cut_eq p.length]; simp [h1, ← ht]
    simp only [e1]
   ·rw [if_neg h1, if_neg h1, if_neg (fun e => h1 (by rw [e, ← ht]))]
  ·have ho : p.drop c ≠ [] := by
    intro e; rw [List.drop_eq_nil_iff] at e; omega
   rw [if_neg h, look_join, List.length_take, Nat.min_eq_left hl.2, look_part _ _ _ _ _ (fun c d r s h1 h2 => hn c d r s h1 h2), look_oldE _ _ _ ho]
   simp only [look]
   have hp := pre_app (p.take c) (p.drop c) x
   rw [List.take_append_drop, List.length_take, Nat.min_eq_left hl.1] at hp
   by_cases h1 : x.take c = q.take c
   ·rw [if_pos h1]
    have e1 : x = q ↔ x.drop c = q.drop c := by rw [cut_eq c]; simp [h1]
    have e2 : x.take p.length = p ↔ (x.drop c).take (p.drop c).length = p.drop c := by rw [hp]; simp [h1, ht]
    have e3 : (x.drop c).drop (p.drop c).length = x.drop p.length := by
     rw [List.drop_drop, List.length_drop]; congr 1; omega
    simp only [e1, e2, e3]
   ·rw [if_neg h1, if_neg (fun e => h1 (by rw [e])), if_neg (fun e => h1 (by rw [← ht]; exact (hp.1 e).1))]
 | .br w kids, q, v, x => by
  cases q with
  | nil =>
   cases x with
   | nil => simp [putT, look]
   | cons b s => simp [putT, look]
  | cons a r =>
   cases x with
   | nil => simp [putT, look]
   | cons b s =>
    simp only [putT, look, updT]
    by_cases h : b.toNat = a.toNat
    ·have := u8_eq h
     subst this
     rw [if_pos rfl, look_put (kids b.toNat) r v s]
     simp
    ·rw [if_neg h, if_neg (by intro e; injection e with e _; subst e; exact h rfl)]
end Pl
end Go.Proofs.YtjppbomngnomhaaGreatDoor
namespace Go.Proofs.YtjppbomngnomhaaGreatDoor
namespace Pl
abbrev It := Bs × Bs
def rp : Tri → List It
 | .nil => []
 | .leaf p v => if v = [] then [] else [(p, v)]
 | .ext p t => (rp t).map fun x => (p ++ x.1, x.2)
 | .br v kids => (if v = [] then [] else [([], v)]) ++ (List.range 16).flatMap fun i => (rp (kids i)).map fun x => (UInt8.ofNat i :: x.1, x.2)
def okT : Tri → Nat → Prop
 | .nil, _ => True
 | .leaf p v, n => fit p = true ∧ p.length ≤ n
 | .ext p t, n => fit p = true ∧ p.length ≤ n ∧ (t ≠ .nil ∧ p ≠ []) ∧ okT t (n - p.length)
 | .br v kids, n => ∀ i, kids i = .nil ∨ (i < 16 ∧ 1 ≤ n ∧ okT (kids i) (n - 1))
theorem fit_app (p q : Bs) : fit (p ++ q) = (fit p && fit q) := by simp [fit]
theorem fit_split (q : Bs) (c : Nat) (h : fit q = true) : fit (q.take c) = true ∧ fit (q.drop c) = true := by
 rw [← Bool.and_eq_true, ← fit_app, List.take_append_drop]; exact h
theorem fit_cons (a : UInt8) (r : Bs) : fit (a :: r) = true ↔ a.toNat < 16 ∧ fit r = true := by
 simp [fit]; intro _; omega
theorem okT_join (p : Bs) (t : Tri) (n : Nat) (hp : fit p = true) (hl : p.length ≤ n) (hn : t ≠ .nil) (h : okT t (n - p.length)) : okT (joinT p t) n ∧ joinT p t ≠ .nil := by
 by_cases hp0 : p = []
 ·subst hp0; rw [joinT_nil]; exact ⟨by simpa using h, hn⟩
 ·cases t with
  | nil => exact absurd rfl hn
  | leaf q v =>
   simp only [joinT, hp0, if_false, okT, fit_app, List.length_append] at h ⊢
   exact ⟨⟨by simp [hp, h.1], by omega⟩, by simp⟩
  | ext q t =>
   simp only [joinT, hp0, if_false, okT, fit_app, List.length_append] at h ⊢
   exact ⟨⟨by simp [hp, h.1], by omega, ⟨h.2.2.1.1, by simp [hp0]⟩, by rw [← Nat.sub_sub]; exact h.2.2.2⟩, by simp⟩
  | br v kids =>
   simp only [joinT, hp0, if_false]
   exact ⟨⟨hp, hl, ⟨by simp, hp0⟩, h⟩, by simp⟩
theorem okT_old (f : Bs → Tri) (old : Bs) (n : Nat) (ho : fit old = true) (hl : old.length ≤ n) (hf : ∀ c r, old = c :: r → okT (f r) (n - 1)) : ∀ i, oldK f old i = .nil ∨ (i < 16 ∧ 1 ≤ n ∧ okT (oldK f old i) (n - 1)) := by
 intro i
 cases old with
 | nil => exact .inl rfl
 | cons c r =>
  simp only [oldK, updT]
  by_cases h : i = c.toNat
  ·rw [if_pos h]
   exact .inr ⟨by rw [h]; exact ((fit_cons c r).1 ho).1, by simp at hl; omega, hf c r rfl⟩
  ·rw [if_neg h]; exact .inl rfl
theorem okT_part (own q v : Bs) (kids : Nat → Tri) (n : Nat) (hq : fit q = true) (hl : q.length ≤ n) (hk : ∀ i, kids i = .nil ∨ (i < 16 ∧ 1 ≤ n ∧ okT (kids i) (n - 1))) : okT (partT own kids q v) n ∧ partT own kids q v ≠ .nil := by
 cases q with
 | nil => exact ⟨hk, by simp [partT]⟩
 | cons a r =>
  have h1 := (fit_cons a r).1 hq
  simp only [List.length_cons] at hl
  refine ⟨fun i => ?_, by simp [partT]⟩
  simp only [updT]
  by_cases h : i = a.toNat
  ·rw [if_pos h]
   exact .inr ⟨by omega, by omega, h1.2, by omega⟩
  ·rw [if_neg h]; exact hk i
theorem okT_mono : ∀ (t : Tri) (n m : Nat), n ≤ m → okT t n → okT t m
 | .nil, _, _, _, _ => trivial
 | .leaf p v, n, m, h, hk => ⟨hk.1, Nat.le_trans hk.2 h⟩
 | .ext p t, n, m, h, hk => ⟨hk.1, Nat.le_trans hk.2.1 h, hk.2.2.1, okT_mono t _ _ (by omega) hk.2.2.2⟩
 | .br v kids, n, m, h, hk => fun i => (hk i).imp id fun ⟨h1, h2, h3⟩ => ⟨h1, by omega, okT_mono (kids i) _ _ (by omega) h3⟩
theorem okT_put : ∀ (t : Tri) (q v : Bs) (n : Nat), okT t n → fit q = true → q.length ≤ n → okT (putT t q v) n ∧ putT t q v ≠ .nil
 | .nil, q, v, n, _, hq, hl => ⟨⟨hq, hl⟩, by simp [putT]⟩
 | .leaf p w, q, v, n, hk, hq, hl => by
  have hc := common_le p q
  unfold putT
  generalize common p q = c at *
  by_cases h : c = p.length ∧ c = q.length
  ·rw [if_pos h]; exact ⟨⟨hq, hl⟩, by simp⟩
  ·rw [if_neg h]
   have h1 := fit_split q c hq
   have h2 := fit_split p c hk.1
   have hlt : (q.take c).length = c := by rw [List.length_take]; omega
   have hpt := okT_part (ownT p w c) (q.drop c) v (oldK (fun r => .leaf r w) (p.drop c)) (n - c) h1.2 (by rw [List.length_drop]; omega) (okT_old _ _ _ h2.2 (by have := hk.2; rw [List.length_drop]; omega) (fun a r e => by
    have h3 := hk.2
    have h4 : (p.drop c).length = r.length + 1 := by rw [e]; rfl
    rw [List.length_drop] at h4
    exact ⟨((fit_cons a r).1 (e ▸ h2.2)).2, by omega⟩))
   exact okT_join _ _ n h1.1 (by omega) hpt.2 (by rw [hlt]; exact hpt.1)
 | .ext p t, q, v, n, hk, hq, hl => by
  have hc := common_le p q
  unfold putT
  generalize common p q = c at *
  have h1 := fit_split q c hq
  by_cases h : c = p.length
  ·rw [if_pos h]
   have := okT_put t (q.drop c) v (n - p.length) hk.2.2.2 h1.2 (by rw [List.length_drop]; omega)
   exact okT_join _ _ n hk.1 hk.2.1 this.2 this.1
  ·rw [if_neg h]
   have h2 := fit_split p c hk.1
   have hlt : (q.take c).length = c := by rw [List.length_take]; omega
   have hpt := okT_part [] (q.drop c) v (oldK (fun r => joinT r t) (p.drop c)) (n - c) h1.2 (by rw [List.length_drop]; omega) (okT_old _ _ _ h2.2 (by have := hk.2.1; rw [List.length_drop]; omega) (fun a r e => by
    have h3 := hk.2.1
    have h4 : (p.drop c).length = r.length + 1 := by rw [e]; rfl
    rw [List.length_drop] at h4
    exact (okT_join r t _ ((fit_cons a r).1 (e ▸ h2.2)).2 (by omega) hk.2.2.1.1 (by rw [show n - c - 1 - r.length = n - p.length from by omega]; exact hk.2.2.2)).1))
   exact okT_join _ _ n h1.1 (by omega) hpt.2 (by rw [hlt]; exact hpt.1)
 | .br w kids, q, v, n, hk, hq, hl => by
  cases q with
  | nil => exact ⟨hk, by simp [putT]⟩
  | cons a r =>
   have h1 := (fit_cons a r).1 hq
   simp only [List.length_cons] at hl
   refine ⟨fun i => ?_, by simp [putT]⟩
   simp only [updT]
   by_cases h : i = a.toNat
   ·rw [if_pos h]
    have hka : okT (kids a.toNat) (n - 1) := by
     rcases hk a.toNat with h2 | h2
     ·rw [h2]; trivial
     ·exact h2.2.2
    exact .inr ⟨by omega, by omega, (okT_put (kids a.toNat) r v (n - 1) hka h1.2 (by omega)).1⟩
   ·rw [if_neg h]; exact hk i
theorem u8_to (i : Nat) (h : i < 16) : (UInt8.ofNat i).toNat = i := by
 rw [UInt8.toNat_ofNat']; omega
theorem rp_mem : ∀ (t : Tri) (n : Nat), okT t n → ∀ q v, (q, v) ∈ rp t ↔ look t q = v ∧ v ≠ []
 | .nil, n, _, q, v => by simp [rp, look]
 | .leaf p w, n, _, q, v => by
  simp only [rp, look]
  by_cases hw : w = []
  ·subst hw; simp
  ·rw [if_neg hw]
   simp only [List.mem_singleton, Prod.mk.injEq]
   by_cases h : q = p
   ·subst h; simp; exact ⟨fun h => ⟨h.symm, h ▸ hw⟩, fun h => h.1.symm⟩
   ·simp [h]
 | .ext p t, n, hk, q, v => by
  have ih := rp_mem t _ hk.2.2.2
  simp only [rp, look, List.mem_map, Prod.mk.injEq]
  constructor
  ·rintro ⟨⟨x, y⟩, hm, rfl, rfl⟩
   have := (ih x y).1 hm
   simp [this]
  ·rintro ⟨h1, h2⟩
   by_cases hp : q.take p.length = p
   ·rw [if_pos hp] at h1
    refine ⟨(q.drop p.length, v), (ih _ _).2 ⟨h1, h2⟩, ?_, rfl⟩
    show p ++ q.drop p.length = q
    conv => rhs; rw [← List.take_append_drop p.length q, hp]
   ·rw [if_neg hp] at h1; exact absurd h1.symm h2
 | .br w kids, n, hk, q, v => by
  have ih := fun i (h : kids i ≠ .nil) => rp_mem (kids i) (n - 1) ((hk i).resolve_left h).2.2
  simp only [rp, List.mem_append, List.mem_flatMap, List.mem_range, List.mem_map, Prod.mk.injEq]
  cases q with
  | nil =>
   simp only [look]
   constructor
   ·rintro (h | ⟨i, _, x, _, h, _⟩)
    ·by_cases hw : w = []
     ·simp [hw] at h
     ·rw [if_neg hw] at h; simp at h; exact ⟨h.symm, h ▸ hw⟩
    ·cases h
   ·rintro ⟨rfl, h2⟩
    exact .inl (by simp [h2])
  | cons a r =>
   simp only [look]
   constructor
   ·rintro (h | ⟨i, hi, ⟨x, y⟩, hm, h, rfl⟩)
    ·by_cases hw : w = []
     ·simp [hw] at h
     ·rw [if_neg hw] at h; simp at h
    ·injection h with h1 h2
     simp only at h2
     subst h2
     have hne : kids i ≠ .nil := fun e => by rw [e] at hm; simp [rp] at hm
     have := (ih i hne x y).1 hm
     rw [← h1, u8_to i hi]
     exact this
   ·rintro ⟨h1, h2⟩
    have hne : kids a.toNat ≠ .nil := fun e => by rw [e] at h1; simp [look] at h1; exact h2 h1
    exact .inr ⟨a.toNat, ((hk _).resolve_left hne).1, (r, v), (ih _ hne _ _).2 ⟨h1, h2⟩, by simp, rfl⟩
theorem lt_app (p x y : Bs) (h : x < y) : p ++ x < p ++ y := by
 induction p with
 | nil => exact h
 | cons a r ih => rw [List.cons_append, List.cons_append, List.cons_lt_cons_iff]; exact .inr ⟨rfl, ih⟩
theorem rp_sorted : ∀ (t : Tri), (rp t).Pairwise fun x y => x.1 < y.1
 | .nil => List.Pairwise.nil
 | .leaf p v => by unfold rp; split <;> simp
 | .ext p t => by
  unfold rp
  rw [List.pairwise_map]
  exact (rp_sorted t).imp fun h => lt_app p _ _ h
 | .br v kids => by
  have ih := fun i => rp_sorted (kids i)
  unfold rp
  rw [List.pairwise_append]
  refine ⟨by split <;> simp, ?_, ?_⟩
  ·rw [List.pairwise_flatMap]
   refine ⟨fun i _ => ?_, ?_⟩
   ·rw [List.pairwise_map]
    exact (ih i).imp fun h => by rw [List.cons_lt_cons_iff]; exact .inr ⟨rfl, h⟩
   ·have hr : (List.range 16).Pairwise (· < ·) := List.pairwise_lt_range
    refine (List.Pairwise.and_mem.1 hr).imp fun {i j} h => ?_
    obtain ⟨hi, hj, hlt⟩ := h
    rw [List.mem_range] at hi hj
    intro x hx y hy
    simp only [List.mem_map] at hx hy
    obtain ⟨a, _, rfl⟩ := hx
    obtain ⟨b, _, rfl⟩ := hy
    rw [List.cons_lt_cons_iff]
    left
    rw [UInt8.lt_iff_toNat_lt, u8_to i hi, u8_to j hj]
    exact hlt
  ·intro x hx y hy
   by_cases hv : v = []
   ·simp [hv] at hx
   ·rw [if_neg hv, List.mem_singleton] at hx
    subst hx
    simp only [List.mem_flatMap, List.mem_map] at hy
    obtain ⟨i, _, b, _, rfl⟩ := hy
    exact List.nil_lt_cons _ _
def Rise (l : List It) : Prop := l.Pairwise fun x y => x.1 < y.1
def insI (k v : Bs) : List It → List It
 | [] => [(k, v)]
 | x :: r => if x.1 < k then x :: insI k v r else if x.1 = k then (k, v) :: r else (k, v) :: x :: r
theorem rise_eq : ∀ (a b : List It), Rise a → Rise b → (∀ x, x ∈ a ↔ x ∈ b) → a = b
 | [], [], _, _, _ => rfl
 | [], y :: s, _, _, h => absurd ((h y).2 (by simp)) (by simp)
 | x :: r, [], _, _, h => absurd ((h x).1 (by simp)) (by simp)
 | x :: r, y :: s, ha, hb, h => by
  unfold Rise at ha hb
  rw [List.pairwise_cons] at ha hb
  have hxy : x = y := by
   rcases List.mem_cons.1 ((h x).1 (by simp)) with h1 | h1
   ·exact h1
   ·rcases List.mem_cons.1 ((h y).2 (by simp)) with h2 | h2
    ·exact h2.symm
    ·exact absurd (List.lt_trans (hb.1 x h1) (ha.1 y h2)) (List.lt_irrefl _)
  subst hxy
  rw [rise_eq r s ha.2 hb.2 (fun z => ⟨fun hz => by
   rcases List.mem_cons.1 ((h z).1 (by simp [hz])) with h1 | h1
   ·subst h1; exact absurd (ha.1 z hz) (List.lt_irrefl _)
   ·exact h1, fun hz => by
   rcases List.mem_cons.1 ((h z).2 (by simp [hz])) with h1 | h1
   ·subst h1; exact absurd (hb.1 z hz) (List.lt_irrefl _)
   ·exact h1⟩)]
theorem insI_mem (k v : Bs) : ∀ (l : List It), Rise l → ∀ y, y ∈ insI k v l ↔ y = (k, v) ∨ (y ∈ l ∧ y.1 ≠ k)
 | [], _, y => by simp [insI]
 | x :: r, h, y => by
  unfold Rise at h
  rw [List.pairwise_cons] at h
  have ih := insI_mem k v r h.2 y
  unfold insI
  by_cases h1 : x.1 < k
  ·rw [if_pos h1, List.mem_cons, ih, List.mem_cons]
   have hx : y = x → y.1 ≠ k := fun e e2 => by subst e; rw [e2] at h1; exact List.lt_irrefl _ h1
   constructor
   ·rintro (h | h | h)
    ·exact .inr ⟨.inl h, hx h⟩
    ·exact .inl h
    ·exact .inr ⟨.inr h.1, h.2⟩
   ·rintro (h | ⟨h | h, h2⟩)
    ·exact .inr (.inl h)
    ·exact .inl h
    ·exact .inr (.inr ⟨h, h2⟩)
  ·rw [if_neg h1]
   by_cases h2 : x.1 = k
   ·rw [if_pos h2, List.mem_cons, List.mem_cons]
    constructor
    ·rintro (h3 | h3)
     ·exact .inl h3
     ·exact .inr ⟨.inr h3, fun e => by have := h.1 y h3; rw [e, h2] at this; exact List.lt_irrefl _ this⟩
    ·rintro (h3 | ⟨h3 | h3, h4⟩)
     ·exact .inl h3
     ·subst h3; exact absurd h2 h4
     ·exact .inr h3
   ·rw [if_neg h2, List.mem_cons]
    have h3 : k < x.1 := by
     rcases Classical.em (k < x.1) with h3 | h3
     ·exact h3
     ·exact absurd (List.le_antisymm (List.not_lt.1 h3) (List.not_lt.1 h1)) h2
    constructor
    ·rintro (h4 | h4)
     ·exact .inl h4
     ·refine .inr ⟨h4, fun e => ?_⟩
      rcases List.mem_cons.1 h4 with h5 | h5
      ·subst h5; exact h2 e
      ·have := List.lt_trans h3 (h.1 y h5); rw [e] at this; exact List.lt_irrefl _ this
    ·rintro (h4 | h4)
     ·exact .inl h4
     ·exact .inr h4.1
theorem insI_rise (k v : Bs) : ∀ (l : List It), Rise l → Rise (insI k v l)
 | [], _ => by simp [insI, Rise]
 | x :: r, h => by
  have hr : Rise r := by unfold Rise at h ⊢; exact (List.pairwise_cons.1 h).2
  have ih := insI_rise k v r hr
  have hm := insI_mem k v r hr
  unfold Rise at h
  rw [List.pairwise_cons] at h
  unfold insI
  by_cases h1 : x.1 < k
  ·rw [if_pos h1]
   unfold Rise at ih ⊢
   rw [List.pairwise_cons]
   refine ⟨fun y hy => ?_, ih⟩
   rcases (hm y).1 hy with h2 | h2
   ·subst h2; exact h1
   ·exact h.1 y h2.1
  ·rw [if_neg h1]
   by_cases h2 : x.1 = k
   ·rw [if_pos h2]
    unfold Rise
    rw [List.pairwise_cons]
    exact ⟨fun y hy => by have := h.1 y hy; rw [h2] at this; exact this, h.2⟩
   ·rw [if_neg h2]
    have h3 : k < x.1 := by
     rcases Classical.em (k < x.1) with h3 | h3
     ·exact h3
     ·exact absurd (List.le_antisymm (List.not_lt.1 h3) (List.not_lt.1 h1)) h2
    unfold Rise
    rw [List.pairwise_cons, List.pairwise_cons]
    refine ⟨fun y hy => ?_, h⟩
    rcases List.mem_cons.1 hy with h4 | h4
    ·subst h4; exact h3
    ·exact List.lt_trans h3 (h.1 y h4)
theorem insI_len (k v : Bs) : ∀ (l : List It), (insI k v l).length ≤ l.length + 1
 | [] => by simp [insI]
 | x :: r => by
  have := insI_len k v r
  unfold insI
  split
  ·simp; omega
  ·split <;> simp
theorem rp_put (t : Tri) (n : Nat) (hk : okT t n) (q v : Bs) (hq : fit q = true) (hl : q.length ≤ n) (hv : v ≠ []) : rp (putT t q v) = insI q v (rp t) := by
 refine rise_eq _ _ (rp_sorted _) (insI_rise _ _ _ (rp_sorted t)) ?_
 rintro ⟨x, y⟩
 rw [rp_mem _ n (okT_put t q v n hk hq hl).1, insI_mem _ _ _ (rp_sorted t), rp_mem t n hk, look_put]
 by_cases h : x = q
 ·subst h
  simp
  constructor
  ·rintro ⟨rfl, h⟩; rfl
  ·rintro rfl; exact ⟨rfl, hv⟩
 ·simp [h]
theorem ofP_cons (c : UInt8) (r : Bs) : ofP (c :: r) = UInt8.ofNat (c.toNat / 16) :: UInt8.ofNat (c.toNat % 16) :: ofP r := by simp [ofP]
theorem nib_hi (c : UInt8) : (UInt8.ofNat (c.toNat / 16)).toNat = c.toNat / 16 := by
 have := c.toNat_lt
 rw [UInt8.toNat_ofNat']; omega
theorem nib_lo (c : UInt8) : (UInt8.ofNat (c.toNat % 16)).toNat = c.toNat % 16 := by
 rw [UInt8.toNat_ofNat']; omega
theorem ofP_lt : ∀ (a b : Bs), ofP a < ofP b ↔ a < b
 | [], [] => by simp [ofP]
 | [], d :: s => by simp [ofP_cons]; simp [ofP]
 | c :: r, [] => by simp [ofP]
 | c :: r, d :: s => by
  rw [ofP_cons, ofP_cons, List.cons_lt_cons_iff, List.cons_lt_cons_iff, List.cons_lt_cons_iff, ofP_lt r s]
  simp only [UInt8.lt_iff_toNat_lt, ← UInt8.toNat_inj, nib_hi, nib_lo]
  constructor
  ·rintro (h | ⟨h1, h | ⟨h2, h⟩⟩)
   ·left; omega
   ·left; omega
   ·right; exact ⟨by omega, h⟩
  ·rintro (h | ⟨h1, h⟩)
   ·by_cases h2 : c.toNat / 16 < d.toNat / 16
    ·exact .inl h2
    ·exact .inr ⟨by omega, .inl (by omega)⟩
   ·exact .inr ⟨by omega, .inr ⟨by omega, h⟩⟩
theorem ofP_inj {a b : Bs} (h : ofP a = ofP b) : a = b := by
 rcases Classical.em (a < b) with h1 | h1
 ·have := (ofP_lt a b).2 h1; rw [h] at this; exact absurd this (List.lt_irrefl _)
 ·rcases Classical.em (b < a) with h2 | h2
  ·have := (ofP_lt b a).2 h2; rw [h] at this; exact absurd this (List.lt_irrefl _)
  ·exact List.le_antisymm (List.not_lt.1 h2) (List.not_lt.1 h1)
theorem ofP_fit (s : Bs) : fit (ofP s) = true := by
 induction s with
 | nil => rfl
 | cons c r ih =>
  have := c.toNat_lt
  rw [ofP_cons, fit_cons, fit_cons, nib_hi, nib_lo]
  exact ⟨by omega, by omega, ih⟩
theorem joined_ofP2 : ∀ (s : Bs), joined (ofP s) = s
 | [] => rfl
 | c :: r => by
  rw [ofP_cons, joined, nib_hi, nib_lo, joined_ofP2 r]
  congr 1
  rw [show c.toNat / 16 * 16 + c.toNat % 16 = c.toNat from by omega]
  simp
def keyP (p : Bs) : Bs := if fit p = true ∧ p.length % 2 = 0 then joined p else []
theorem keyP_ofP (s : Bs) : keyP (ofP s) = s := by
 unfold keyP
 rw [if_pos ⟨ofP_fit s, by rw [ofP_len]; omega⟩, joined_ofP2]
def pathsI (l : List It) : List It := l.map fun x => (ofP x.1, x.2)
theorem insI_paths (k v : Bs) : ∀ (l : List It), insI (ofP k) v (pathsI l) = pathsI (insI k v l)
 | [] => rfl
 | x :: r => by
  have ih := insI_paths k v r
  unfold pathsI at ih ⊢
  simp only [List.map_cons, insI, ofP_lt]
  by_cases h1 : x.1 < k
  ·rw [if_pos h1, if_pos h1, ih, List.map_cons]
  ·rw [if_neg h1, if_neg h1]
   by_cases h2 : x.1 = k
   ·rw [if_pos (by rw [h2]), if_pos h2, List.map_cons]
   ·rw [if_neg (fun e => h2 (ofP_inj e)), if_neg h2, List.map_cons, List.map_cons]
structure RepT (t : Tri) (L : List It) : Prop where
 ok : okT t 16
 items : rp t = pathsI L
theorem RepT.start : RepT .nil [] := ⟨trivial, rfl⟩
theorem RepT.put {t : Tri} {L : List It} (h : RepT t L) (k v : Bs) (hk : k.length ≤ 8) (hv : v ≠ []) : RepT (putT t (ofP k) v) (insI k v L) := by
 have hl : (ofP k).length ≤ 16 := by rw [ofP_len]; omega
 exact ⟨(okT_put t _ v 16 h.ok (ofP_fit k) hl).1, by rw [rp_put t 16 h.ok _ v (ofP_fit k) hl hv, h.items, insI_paths]⟩
theorem RepT.len {t : Tri} {L : List It} (h : RepT t L) : (rp t).length = L.length := by rw [h.items]; simp [pathsI]
theorem RepT.out {t : Tri} {L : List It} (h : RepT t L) : (rp t).map (fun x => (keyP x.1, x.2)) = L := by
 rw [h.items, pathsI, List.map_map]
 conv => rhs; rw [← List.map_id L]
 refine List.map_congr_left fun x _ => ?_
 simp [keyP_ofP]
end Pl
end Go.Proofs.YtjppbomngnomhaaGreatDoor
namespace Go.Proofs.YtjppbomngnomhaaGreatDoor
open Go.RowKit Pl
def ISrc (w : World) (g o : Nat) (l : List It) : Prop := ∀ i, i < l.length → w.cell? ⟨g, o + i * 2, none⟩ = some (.string ⟨List.toArray ((l.getD i ([], [])).1)⟩) ∧ w.cell? ⟨g, o + i * 2 + 1, none⟩ = some (.string ⟨List.toArray ((l.getD i ([], [])).2)⟩)
def IL (w : World) (v : Value) (l : List It) : Prop :=
 ∃ a cap, v = .slice a l.length cap ∧ l.length ≤ cap ∧ cap ≤ maxLen ∧ (l ≠ [] → ∃ g off, a = some ⟨g, off, none⟩ ∧ g < w.heap.size ∧ ISrc w g off l)
theorem IL.keep {W w : World} {v : Value} {l : List It} (h : IL W v l) (hb : Below W.heap.size W w) : IL w v l := by
 obtain ⟨a, cap, h1, h2, h3, h4⟩ := h
 refine ⟨a, cap, h1, h2, h3, fun hl => ?_⟩
 obtain ⟨g, off, e, hg, hc⟩ := h4 hl
 exact ⟨g, off, e, Nat.lt_of_lt_of_le hg hb.size, fun i hi => ⟨(hb.cell (p := ⟨g, off + i * 2, none⟩) hg).trans (hc i hi).1, (hb.cell (p := ⟨g, off + i * 2 + 1, none⟩) hg).trans (hc i hi).2⟩⟩
theorem IL.form {w : World} {v : Value} {l : List It} (h : IL w v l) : ∃ a c, v = .slice a l.length c := by
 obtain ⟨a, cap, h1, _⟩ := h
 exact ⟨a, cap, h1⟩
theorem IL.small {w : World} {v : Value} {l : List It} (h : IL w v l) : l.length ≤ 9223372036854775807 := by
 obtain ⟨a, cap, h1, h2, h3, _⟩ := h
 unfold maxLen at h3; omega
theorem IL.at {w : World} {a : Option Addr} {c : Nat} {l : List It} (h : IL w (.slice a l.length c) l) (i : Nat) (hi : i < l.length) :
  ∃ g off, a = some ⟨g, off, none⟩ ∧ g < w.heap.size ∧ w.cell? ⟨g, off + i * 2, none⟩ = some (.string ⟨List.toArray ((l.getD i ([], [])).1)⟩) ∧ w.cell? ⟨g, off + i * 2 + 1, none⟩ = some (.string ⟨List.toArray ((l.getD i ([], [])).2)⟩) := by
 obtain ⟨a', cap, h1, _, _, h5⟩ := h
 injection h1 with h1 _ _
 obtain ⟨g, off, e, hg, hc⟩ := h5 (by intro e; rw [e] at hi; simp at hi)
 exact ⟨g, off, h1.trans e, hg, (hc i hi).1, (hc i hi).2⟩
theorem infoIt : (Tryz.prog.info? 43).map (fun i => (i.zero, i.size, i.bytes)) = some (some (.agg #[.string ⟨#[]⟩, .string ⟨#[]⟩]), 2, 32) := by kernel_rfl
def iv : List It → List Value
 | [] => []
 | x :: r => .string ⟨List.toArray x.1⟩ :: .string ⟨List.toArray x.2⟩ :: iv r
theorem iv_len (l : List It) : (iv l).length = l.length * 2 := by
 induction l with
 | nil => rfl
 | cons x r ih => simp only [iv, List.length_cons, ih]; omega
theorem iv_app (a b : List It) : iv (a ++ b) = iv a ++ iv b := by
 induction a with
 | nil => rfl
 | cons x r ih => simp [iv, ih]
theorem iv_at : ∀ (l : List It) (i : Nat), i < l.length → (iv l)[i * 2]? = some (.string ⟨List.toArray ((l.getD i ([], [])).1)⟩) ∧ (iv l)[i * 2 + 1]? = some (.string ⟨List.toArray ((l.getD i ([], [])).2)⟩)
 | x :: r, 0, _ => ⟨rfl, rfl⟩
 | x :: r, i + 1, hi => by
  have h := iv_at r i (by simpa using hi)
  rw [show (i + 1) * 2 = i * 2 + 1 + 1 from by omega]
  simpa [iv] using h
theorem ione : ∀ (l : List It), ∀ u ∈ iv l, u.oneCell' = true
 | [], u, h => by simp [iv] at h
 | x :: r, u, h => by
  simp only [iv, List.mem_cons] at h
  rcases h with rfl | rfl | h
  ·rfl
  ·rfl
  ·exact ione r u h
def IRow (w : World) (base : Nat) (v : Value) (l : List It) : Prop := w.ownsRow base 43 2 v l.length (iv l)
theorem IRow.nil (w : World) (base : Nat) : IRow w base (.slice none 0 0) [] := ⟨rfl, .inl ⟨rfl, rfl⟩⟩
theorem IRow.cells {w : World} {base : Nat} {v : Value} {l : List It} (h : IRow w base v l) :
  (v = .slice none 0 0 ∧ l = []) ∨ ∃ g cap, v = .slice (some ⟨g, 0, none⟩) l.length cap ∧ base ≤ g ∧ g < w.heap.size ∧ l.length ≤ cap ∧ cap ≤ maxLen ∧ ISrc w g 0 l ∧ ∀ o, w.frozen? ⟨g, o, none⟩ = false := by
 rcases h.2 with ⟨h1, h2⟩ | ⟨g, cap, cur, hv, hb, hg, hn, hm, hc, ht⟩
 ·exact .inl ⟨h1, List.length_eq_zero_iff.1 h2⟩
 ·refine .inr ⟨g, cap, hv, hb, ?_, hn, hm, fun i hi => ?_, fun o => ?_⟩
  ·rcases Nat.lt_or_ge g w.heap.size with hlt | hge
   ·exact hlt
   ·rw [Array.getElem?_eq_none hge] at hg; cases hg
  ·have h1 : ∀ j, j < l.length * 2 → w.cell? ⟨g, 0 + j, none⟩ = (iv l)[j]? := by
    intro j hj
    rw [← ht, List.getElem?_take, if_pos hj]
    simp [World.cell?, hg]
   obtain ⟨h2, h3⟩ := iv_at l i hi
   exact ⟨(h1 (i * 2) (by omega)).trans h2, (h1 (i * 2 + 1) (by omega)).trans h3⟩
  ·simp [World.frozen?, hg]
theorem IRow.form {w : World} {base : Nat} {v : Value} {l : List It} (h : IRow w base v l) : ∃ (a : Option Addr) (cap : Nat), v = .slice a l.length cap := by
 rcases h.cells with ⟨rfl, rfl⟩ | ⟨g, cap, rfl, _⟩
 ·exact ⟨none, 0, rfl⟩
 ·exact ⟨_, cap, rfl⟩
theorem IRow.own {w : World} {base : Nat} {v : Value} {l : List It} (h : IRow w base v l) : ∀ k, v.ownBlock = some k → base ≤ k := by
 intro k hk
 rcases h.cells with ⟨rfl, _⟩ | ⟨g, cap, rfl, hb, _⟩
 ·cases hk
 ·cases hk; exact hb
theorem IRow.il {w : World} {base : Nat} {v : Value} {l : List It} (h : IRow w base v l) : IL w v l := by
 rcases h.cells with ⟨rfl, rfl⟩ | ⟨g, cap, h1, h2, h3, h4, h5, h6, h7⟩
 ·exact ⟨none, 0, rfl, Nat.le_refl _, by unfold maxLen; omega, fun h => absurd rfl h⟩
 ·exact ⟨_, cap, h1, h4, h5, fun _ => ⟨g, 0, rfl, h3, h6⟩⟩
theorem IRow.kept {w w' : World} {base : Nat} {v : Value} {l : List It} (h : IRow w base v l) (hb : ∀ k, v.ownBlock = some k → w'.heap[k]? = w.heap[k]?) : IRow w' base v l := by
 refine ⟨h.1, h.2.imp id ?_⟩
 rintro ⟨g, cap, cur, hv, h1, h2, h3⟩
 subst hv
 exact ⟨g, cap, cur, rfl, h1, (hb g rfl).trans h2, h3⟩
theorem IRow.keep {W w : World} {b : Nat} {v : Value} {l : List It} (h : IRow W b v l) (hb : Below W.heap.size W w) : IRow w b v l := by
 refine h.kept (fun k hk => hb.block k ?_)
 rcases h.cells with ⟨rfl, _⟩ | ⟨g, cap, rfl, _, hg, _⟩
 ·cases hk
 ·cases hk; exact hg
theorem isrc_news {w : World} {g o : Nat} {l : List It} (h : ISrc w g o l) : ∀ j u, (iv l)[j]? = some u → w.cell? ((⟨g, o, none⟩ : Addr).add j) = some u := by
 intro j u hj
 have hjl : j < l.length * 2 := by
  rcases Nat.lt_or_ge j (l.length * 2) with hlt | hge
  ·exact hlt
  ·rw [List.getElem?_eq_none (by rw [iv_len]; exact hge)] at hj; cases hj
 have hadd : (⟨g, o, none⟩ : Addr).add j = ⟨g, o + j, none⟩ := by unfold Addr.add; split <;> simp_all
 rw [hadd]
 obtain ⟨i, hi | hi⟩ : ∃ i, j = i * 2 ∨ j = i * 2 + 1 := ⟨j / 2, by omega⟩
 ·subst hi
  exact (h i (by omega)).1.trans (((iv_at l i (by omega)).1).symm.trans hj)
 ·subst hi
  have := (h i (by omega)).2
  rw [Nat.add_assoc] at this
  exact this.trans (((iv_at l i (by omega)).2).symm.trans hj)
section
variable {ops : Array Oper} {o : Oper} {a : Act} {w : World} {Q : Exit → Act → World → Prop}
theorem wp_appI {K : Act → World → Prop} (s x : Operand)
  (ho : o.op = .call { callee := .builtin .append, args := #[s, x], argTypes := #[27, 27] })
  (base : Nat) (v : Value) (l : List It) (hs : a.eval s = v) (hown : IRow w base v l)
  (g off m c : Nat) (news : List It) (hx : a.eval x = .slice (some ⟨g, off, none⟩) m c) (hm : news.length = m) (hsrc : ISrc w g off news)
  (hlen : l.length + m ≤ 1099511627000) (hbase : base ≤ w.heap.size)
  (h : ∀ v' w', IRow w' base v' (l ++ news) → Below base w w' → K (a.put o.dst v') w') : o.wp Tryz.prog a w K Q := by
 obtain ⟨i0, hi, hz0, hz1, hz2⟩ := info_parts infoIt
 refine wp_append_own w s x 27 ho base 43 i0 (.agg #[.string ⟨#[]⟩, .string ⟨#[]⟩]) 2 32 Tryz.underlying27 hi hz0 hz1 hz2 rfl (by decide) v l.length (iv l) hs hown ⟨g, off, none⟩ m c (iv news) hx (by rw [iv_len, hm]) (isrc_news hsrc) (ione news)
  (by unfold maxLen; omega) (by omega) hbase (fun v' w' h2 h3 _ => h v' w' ?_ (grown_below h3 hbase hown.own))
 unfold IRow
 rw [List.length_append, hm, iv_app]
 exact h2
end
end Go.Proofs.YtjppbomngnomhaaGreatDoor
