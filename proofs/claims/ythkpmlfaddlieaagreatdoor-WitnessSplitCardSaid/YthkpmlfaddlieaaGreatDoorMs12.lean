/- AtP, Less, Ref10, Genes, GenesW. -/
import Derived.Test.YthkpmlfaddlieaaGreatDoorMs11
set_option linter.unnecessarySimpa false
set_option linter.unusedSimpArgs false
set_option linter.unusedVariables false
set_option maxRecDepth 100000
set_option maxHeartbeats 32000000
namespace Go.Proofs.YthkpmlfaddlieaaGreatDoor
namespace Pl
def atI (k : Bs) : List It → Nat
 | [] => 0
 | x :: r => if x.1 < k then atI k r + 1 else 0
def hereI (k : Bs) (l : List It) : Bool := match l.drop (atI k l) with
 | [] => false
 | x :: _ => x.1 == k
theorem atI_le (k : Bs) : ∀ l, atI k l ≤ l.length
 | [] => by simp [atI]
 | x :: r => by
  have := atI_le k r
  unfold atI
  split <;> simp <;> omega
theorem atI_eq (k : Bs) : ∀ (l : List It) (i : Nat), i ≤ l.length → (∀ j, j < i → (l.getD j ([], [])).1 < k) → (i < l.length → ¬ (l.getD i ([], [])).1 < k) → atI k l = i
 | [], i, h, _, _ => by simp at h; simp [atI, h]
 | x :: r, 0, _, _, h => by
  have := h (by simp)
  simp at this
  simp [atI, this]
 | x :: r, i + 1, h, h1, h2 => by
  have h0 := h1 0 (by omega)
  simp at h0
  have := atI_eq k r i (by simpa using h) (fun j hj => by simpa using h1 (j + 1) (by omega)) (fun hi => by simpa using h2 (by simpa using hi))
  simp [atI, h0, this]
theorem hereI_at (k : Bs) (l : List It) : hereI k l = (decide (atI k l < l.length) && ((l.getD (atI k l) ([], [])).1 == k)) := by
 unfold hereI
 rcases Nat.lt_or_ge (atI k l) l.length with h | h
 ·rw [List.drop_eq_getElem_cons h]
  simp [h, List.getD_eq_getElem?_getD]
 ·rw [List.drop_eq_nil_of_le h]
  simp; omega
theorem insI_at (k v : Bs) : ∀ (l : List It), insI k v l = l.take (atI k l) ++ (k, v) :: l.drop (if hereI k l then atI k l + 1 else atI k l)
 | [] => by simp [insI, atI]
 | x :: r => by
  have ih := insI_at k v r
  by_cases h1 : x.1 < k
  ·have e1 : hereI k (x :: r) = hereI k r := by unfold hereI; simp [atI, h1]
   have e2 : atI k (x :: r) = atI k r + 1 := by simp [atI, h1]
   rw [e1, e2]
   unfold insI
   rw [if_pos h1, ih]
   by_cases h2 : hereI k r = true
   ·simp [h2]
   ·simp [h2]
  ·have e1 : hereI k (x :: r) = (x.1 == k) := by unfold hereI; simp [atI, h1]
   have e2 : atI k (x :: r) = 0 := by simp [atI, h1]
   rw [e1, e2]
   unfold insI
   rw [if_neg h1]
   by_cases h2 : x.1 = k
   ·simp [h2]
   ·simp [h2]
theorem hasK_here (k : Bs) : ∀ (l : List It), Rise l → hasK k l = hereI k l
 | [], _ => by simp [hasK, hereI]
 | x :: r, h => by
  unfold Rise at h
  rw [List.pairwise_cons] at h
  have ih := hasK_here k r h.2
  by_cases h1 : x.1 < k
  ·have hne : (x.1 == k) = false := by simpa using fun e => List.lt_irrefl _ (e ▸ h1)
   have : hereI k (x :: r) = hereI k r := by unfold hereI; simp [atI, h1]
   rw [this, ← ih]
   simp [hasK, hne]
  ·have : hereI k (x :: r) = (x.1 == k) := by unfold hereI; simp [atI, h1]
   rw [this]
   by_cases h2 : x.1 = k
   ·simp [hasK, h2]
   ·have h3 := lt_of_not h1 h2
    have : hasK k r = false := by
     unfold hasK
     rw [List.any_eq_false]
     intro y hy e
     have e' : y.1 = k := by simpa using e
     exact List.lt_irrefl _ (List.lt_trans h3 (e' ▸ h.1 y hy))
    unfold hasK at this ⊢
    rw [List.any_cons, this]
    simp
theorem putE_cases (L : List It) (k v : Bs) : (putE L k v = 1 ∧ keyB k = false) ∨ (putE L k v = 2 ∧ keyB k = true ∧ ((v.length < 1 ∨ 32 < v.length) ∨ ((1 ≤ v.length ∧ v.length ≤ 32) ∧ hasK k L = false ∧ 1024 ≤ L.length))) ∨
  (putE L k v = 0 ∧ keyB k = true ∧ (1 ≤ v.length ∧ v.length ≤ 32) ∧ (hasK k L = true ∨ L.length < 1024)) := by
 unfold putE
 by_cases h1 : keyB k = false
 ·exact .inl ⟨by rw [if_pos h1], h1⟩
 ·rw [if_neg h1]
  have h1' : keyB k = true := by simpa using h1
  by_cases h2 : v.length < 1 ∨ 32 < v.length ∨ (hasK k L = false ∧ 1024 ≤ L.length)
  ·rw [if_pos h2]
   refine .inr (.inl ⟨rfl, h1', ?_⟩)
   rcases h2 with h | h | h
   ·exact .inl (.inl h)
   ·exact .inl (.inr h)
   ·by_cases h3 : v.length < 1 ∨ 32 < v.length
    ·exact .inl h3
    ·exact .inr ⟨by omega, h⟩
  ·rw [if_neg h2]
   refine .inr (.inr ⟨rfl, h1', by omega, ?_⟩)
   by_cases h3 : hasK k L = true
   ·exact .inl h3
   ·right
    have h4 : hasK k L = false := by simpa using h3
    rcases Nat.lt_or_ge L.length 1024 with h5 | h5
    ·exact h5
    ·exact absurd (.inr (.inr ⟨h4, h5⟩)) h2
end Pl
end Go.Proofs.YthkpmlfaddlieaaGreatDoor
namespace Go.Proofs.YthkpmlfaddlieaaGreatDoor
open Go.RowKit Pl
theorem lessD : ∀ (x y : Bs), Op.bytesLess x y = decide (x < y)
 | [], [] => by simp [Op.bytesLess]
 | _ :: _, [] => by simp [Op.bytesLess]
 | [], _ :: _ => by simp [Op.bytesLess]
 | a :: x, b :: y => by
  rw [Op.bytesLess, lessD x y]
  rw [Bool.eq_iff_iff]
  simp [List.cons_lt_cons_iff]
theorem geD (x y : Bs) : (Op.bytesLess x y || x == y) = !decide (y < x) := by
 rw [lessD, Bool.eq_iff_iff]
 simp only [Bool.or_eq_true, decide_eq_true_eq, beq_iff_eq, Bool.not_eq_true', decide_eq_false_iff_not]
 constructor
 ·rintro (h | h)
  ·exact fun h2 => List.lt_irrefl _ (List.lt_trans h h2)
  ·subst h; exact List.lt_irrefl _
 ·intro h
  by_cases e : x = y
  ·exact .inr e
  ·left
   rcases Classical.em (x < y) with h1 | h1
   ·exact h1
   ·exact absurd (List.le_antisymm (List.not_lt.1 h) (List.not_lt.1 h1)) e
@[go_sem high] theorem lss_D (t : TypeId) (a b : Bs) : binOp .lss t (.string ⟨a.toArray⟩) (.string ⟨b.toArray⟩) = pure (.bool (decide (a < b))) := by
 rw [binOp_string_lss, Lib.toList_data, Lib.toList_data, lessD]
@[go_sem high] theorem geq_D (t : TypeId) (a b : Bs) : binOp .geq t (.string ⟨a.toArray⟩) (.string ⟨b.toArray⟩) = pure (.bool (!decide (a < b))) := by
 rw [binOp_string_geq, Lib.toList_data, Lib.toList_data, lessD]
@[go_sem high] theorem leq_D (t : TypeId) (a b : Bs) : binOp .leq t (.string ⟨a.toArray⟩) (.string ⟨b.toArray⟩) = pure (.bool (!decide (b < a))) := by
 rw [binOp_string_leq, Lib.toList_data, Lib.toList_data, geD]
@[go_sem high] theorem gtr_D (t : TypeId) (a b : Bs) : binOp .gtr t (.string ⟨a.toArray⟩) (.string ⟨b.toArray⟩) = pure (.bool (decide (b < a))) := by
 rw [binOp_string_gtr, Lib.toList_data, Lib.toList_data, geD, Bool.not_not]
end Go.Proofs.YthkpmlfaddlieaaGreatDoor
namespace Go.Proofs.YthkpmlfaddlieaaGreatDoor
open Go.RowKit Pl
def AtOut (l : List It) (k : Bs) (w : World) (e : Ending) (w' : World) : Prop := e = .returned (.tuple #[.int .i64 ((atI k l : Nat)), .bool (hereI k l)]) ∧ ∃ n, w' = w.drewN n
theorem rat_any (v : Value) (l : List It) (k : Bs) (w : World) (hv : IL w v l) :
  Calls Tryz.prog 94 #[v, .string ⟨k.toArray⟩] w (AtOut l k w) := by
 obtain ⟨va, vc, rfl⟩ := hv.form
 have hls := hv.small
 have HV := Lib.hid hv
 clear hv
 go_enter Tryz.func94, Tryz.ntmps94
 go_wp2_with fail
 go_loopw [6] (fun s6 wr => ∃ i : Nat, s6 = .int .i64 i ∧ i ≤ l.length ∧ Hid (∀ j, j < i → (l.getD j ([], [])).1 < k) ∧ wr = w) (fun s6 _ => l.length - (intOf s6).toNat)
 case atStart => exact ⟨0, rfl, Nat.zero_le _, Lib.hid (fun j hj => absurd hj (by omega)), rfl⟩
 case round =>
  obtain ⟨i, rfl, hi, HJ, rfl⟩ := hrel
  by_cases hlt : i < l.length
  ·have i1 : decide ((i : Int) < (l.length : Int)) = true := by simp; omega
   have i0 : 0 ≤ (i : Int) ∧ (i : Int) < (l.length : Int) := by omega
   have i2 : (i : Int) < (l.length : Int) := by omega
   obtain ⟨g, off, e1, hg, c1, _⟩ := HV.out.at i hlt
   subst e1
   have HNX := Lib.hid (fun (h : (l.getD i ([], [])).1 < k) j (hj : j < i + 1) => show (l.getD j ([], [])).1 < k from by
    rcases Nat.lt_or_ge j i with h1 | h1
    ·exact HJ.out j h1
    ·have : j = i := by omega
     subst this; exact h)
   have HEQ := Lib.hid (fun (h : ¬ (l.getD i ([], [])).1 < k) => atI_eq k l i (by omega) HJ.out (fun _ => h))
   have HHR := Lib.hid (hereI_at k l)
   have HLT := Lib.hid hlt
   clear hlt
   generalize hx : (l.getD i ([], [])).1 = xk at *
   have HX := Lib.hid hx
   clear hx
   by_cases h : xk < k
   ·have k1 : decide (xk < k) = true := by simpa using h
    have HN := Lib.hid (HNX.out h)
    clear h HNX HEQ
    go_wp2_with fail
    exact ⟨⟨i + 1, by go_num, by have := HLT.out; omega, HN, trivial⟩, by have := HLT.out; simp [intOf]; omega⟩
   ·have k1 : decide (xk < k) = false := by simpa using h
    have HE := Lib.hid (HEQ.out h)
    clear h HNX HEQ
    by_cases h2 : xk = k
    ·subst h2
     have HH : Hid (hereI xk l = true) := Lib.hid (by rw [HHR.out, HE.out, HX.out]; simp [HLT.out])
     go_wp2_with fail
     go_quiet (fail)
     go_wp2_with fail
     go_ret2
     exact ⟨by rw [HE.out, HH.out]; rfl, _, rfl⟩
    ·have e2 : (xk == k) = false := by simpa using h2
     have e3 : decide (xk = k) = false := by simpa using h2
     have HH : Hid (hereI k l = false) := Lib.hid (by rw [HHR.out, HE.out, HX.out]; simp [e2])
     clear h2
     go_wp2_with fail
     go_quiet (fail)
     go_wp2_with fail
     go_ret2
     exact ⟨by rw [HE.out, HH.out]; rfl, _, rfl⟩
  ·have e : i = l.length := by omega
   have HE : Hid (atI k l = l.length) := Lib.hid (by subst e; exact atI_eq k l _ (Nat.le_refl _) HJ.out (fun h => absurd h (Nat.lt_irrefl _)))
   have HH : Hid (hereI k l = false) := Lib.hid (by rw [hereI_at, HE.out]; simp)
   have i1 : decide ((i : Int) < (l.length : Int)) = false := by simp; omega
   clear hlt
   go_wp2_with fail
   go_ret2
   exact ⟨by rw [HE.out, HH.out]; rfl, 0, rfl⟩
theorem rkeyed_any (k : Bs) (w : World) : Calls Tryz.prog 129 #[.string ⟨k.toArray⟩] w fun e w' => e = .returned (.bool (keyB k)) ∧ w = w' := by
 generalize hz : keyB k = z
 have HZ := Lib.hid hz
 clear hz
 by_cases h1 : 1 ≤ k.length
 ·have d1 : decide ((1 : Int) ≤ (k.length : Int)) = true := by simp only [decide_eq_true_eq]; omega
  by_cases h2 : k.length ≤ 8
  ·have d2 : decide ((k.length : Int) ≤ 8) = true := by simp only [decide_eq_true_eq]; omega
   have HE : Hid (z = true) := Lib.hid (by rw [← HZ.out]; simp [keyB]; omega)
   have h1' : (1 : Int) ≤ (k.length : Int) := by omega
   clear h1 h2 HZ
   go_enter Tryz.func129, Tryz.ntmps129
   go_wp2_with fail
   go_ret
   exact ⟨by rw [HE.out]; rfl, rfl⟩
  ·have d2 : decide ((k.length : Int) ≤ 8) = false := by simp only [decide_eq_false_iff_not]; omega
   have HE : Hid (z = false) := Lib.hid (by rw [← HZ.out]; simp [keyB]; omega)
   clear h1 h2 HZ
   go_enter Tryz.func129, Tryz.ntmps129
   go_wp2_with fail
   go_ret
   exact ⟨by rw [HE.out]; rfl, rfl⟩
 ·have h0 : k = [] := List.length_eq_zero_iff.1 (by omega)
  subst h0
  have HE : Hid (z = false) := Lib.hid (by rw [← HZ.out]; rfl)
  clear h1 HZ
  go_enter Tryz.func129, Tryz.ntmps129
  go_wp2_with fail
  go_ret
  exact ⟨by rw [HE.out]; rfl, rfl⟩
theorem il_drop {w : World} {g cap : Nat} {l : List It} (h : IL w (.slice (some ⟨g, 0, none⟩) l.length cap) l) (k : Nat) (hk : k ≤ l.length) : IL w (.slice (some ⟨g, k * 2, none⟩) (l.length - k) (cap - k)) (l.drop k) := by
 obtain ⟨a', cap', h1, h2, h3, h5⟩ := h
 injection h1 with e1 _ e3
 subst e1 e3
 have hl : (l.drop k).length = l.length - k := List.length_drop
 refine ⟨_, cap - k, by rw [hl], by omega, by omega, fun hn => ?_⟩
 obtain ⟨g', off, e, hg, hc⟩ := h5 (by intro e; rw [e] at hn; simp at hn)
 injection e with e
 injection e with e1 e2 _
 subst e1 e2
 refine ⟨g, k * 2, rfl, hg, fun i hi => ?_⟩
 rw [getD_dropI]
 have := hc (k + i) (by omega)
 rw [Nat.zero_add] at this
 rw [show k * 2 + i * 2 = (k + i) * 2 from by omega]
 exact this
theorem il_end2 {w : World} (a : Option Addr) (n c : Nat) (hn : n = 0) (h : c ≤ maxLen) (l : List It) (hl : l = []) : IL w (.slice a n c) l := by
 subst hn hl
 exact ⟨a, c, rfl, Nat.zero_le _, h, fun h => absurd rfl h⟩
theorem il_end {w : World} (a : Option Addr) (c : Nat) (h : c ≤ maxLen) : IL w (.slice a 0 c) [] := ⟨a, c, rfl, Nat.zero_le _, h, fun h => absurd rfl h⟩
def RYes (B : Nat) (w : World) (l : List It) (e : Ending) (w' : World) : Prop := ∃ v, e = .returned (.tuple #[v, .int .i64 0]) ∧ IRow w' B v l ∧ Below B w w'
theorem rput_yes (base : Nat) (val : Value) (l : List It) (k v : Bs) (hris : Rise l) (h0 : putE l k v = 0) (hll : l.length ≤ 1000000) (w : World) (hv : IRow w base val l) :
  Calls Tryz.prog 95 #[val, .string ⟨k.toArray⟩, .string ⟨v.toArray⟩] w (RYes w.heap.size w (insI k v l)) := by
 have HK := Lib.hid (rkeyed_any k)
 have HA := Lib.hid (rat_any val l k w hv.il)
 have hcs := putE_cases l k v
 rw [hasK_here k l hris] at hcs
 have hins := insI_at k v l
 have hal := atI_le k l
 have hah := hereI_at k l
 rcases hcs with ⟨h, _⟩ | ⟨h, _⟩ | ⟨_, h1, h2, h3⟩
 ·rw [h0] at h; cases h
 ·rw [h0] at h; cases h
 rw [h1] at HK
 have d1 : decide ((v.length : Int) < 1) = false := by simp only [decide_eq_false_iff_not]; omega
 have d2 : decide ((32 : Int) < (v.length : Int)) = false := by simp only [decide_eq_false_iff_not]; omega
 have hd : (if hereI k l = true then atI k l + 1 else atI k l) ≤ l.length := by
  split
  ·rename_i h
   rw [hah] at h
   simp at h
   omega
  ·exact hal
 unfold AtOut at HA
 clear h0 h1 h2 hris hah
 generalize insI k v l = out at *
 generalize atI k l = a at *
 rcases hv.cells with ⟨rfl, rfl⟩ | ⟨g, cap, rfl, hbg, hg, hn, hm, hc, hf⟩
 ·have ha0 : a = 0 := by simpa using hal
  subst ha0
  have hh : hereI k [] = false := rfl
  rw [hh] at HA hins
  have HINS := Lib.hid hins
  clear hv hal hd hins h3 hh hll
  go_enter Tryz.func95, Tryz.ntmps95
  go_wp2_with fail
  refine (HK.out _).mono ?_
  rintro e w1 ⟨rfl, rfl⟩
  go_wp2_with fail
  refine HA.out.mono ?_
  rintro e w2 ⟨rfl, n2, rfl⟩
  go_wp2_with (first
   | (at_builtin; refine wpList_appII rfl (.tmp 37) (.tmp 40) rfl w.heap.size (.slice none 0 0) [] rfl (IRow.nil _ _) _ [] rfl (il_end none 0 (by unfold maxLen; omega)) (by simp) (Nat.le_refl _) ?_; intro v5 w5 hr5 hb5)
   | (at_builtin; refine wpList_appI rfl (.tmp 42) (.tmp 46) rfl w.heap.size v5 [] rfl (hr5.keep (Below.allocS (Below.refl _ _) _)) w5.heap.size 0 1 1 [(k, v)] rfl rfl (isrc1 _ k v 203) (by simp) (by have := hb5.size; simp at this ⊢; omega) ?_; intro v6 w6 hr6 hb6)
   | (at_builtin; refine wpList_appII rfl (.tmp 51) (.tmp 54) rfl w.heap.size v6 _ rfl hr6 _ [] rfl (il_end none 0 (by unfold maxLen; omega)) (by simp) (by have := hb5.size; have := hb6.size; simp at *; omega) ?_; intro v7 w7 hr7 hb7)
   | fail)
  go_ret2
  have hb05 : Below w.heap.size w w5 := (below_drewN (Below.refl w.heap.size w) n2).trans hb5
  exact ⟨v7, rfl, by rw [HINS.out]; exact hr7, ((Below.allocS hb05 _).trans hb6).trans hb7⟩
 ·have HIL := Lib.hid hv.il
  have hac : (a : Int) ≤ (cap : Int) := by omega
  have hac' : a ≤ cap := by omega
  have hls : (l.length : Int) ≤ 1000000 := by omega
  unfold maxLen at hm
  cases hh : hereI k l
  ·rw [hh] at HA hins h3
   simp only [Bool.false_eq_true, if_false] at hins
   have hl24 : decide ((1024 : Int) ≤ (l.length : Int)) = false := by
    simp only [decide_eq_false_iff_not]
    rcases h3 with h3 | h3
    ·cases h3
    ·omega
   have HINS := Lib.hid hins
   have hal' : (a : Int) ≤ (l.length : Int) := by omega
   clear hv hd hins h3 hc hf hh
   go_enter Tryz.func95, Tryz.ntmps95
   go_wp2_with fail
   refine (HK.out _).mono ?_
   rintro e w1 ⟨rfl, rfl⟩
   go_wp2_with fail
   refine HA.out.mono ?_
   rintro e w2 ⟨rfl, n2, rfl⟩
   have hI2 := HIL.out.keep (below_drewN (Below.refl w.heap.size w) n2)
   have hU2 := hI2.upto a hal
   have hta : (l.take a).length = a := by rw [List.length_take]; omega
   have ht6 : (l.take a ++ [(k, v)]).length = a + 1 := by simp [hal]
   by_cases hca : cap = a
   ·subst hca
    have HD := Lib.hid (show l.drop cap = [] from List.drop_eq_nil_of_le hn)
    go_wp2_with (first
     | (at_builtin; refine wpList_appII rfl (.tmp 37) (.tmp 40) rfl w.heap.size (.slice none 0 0) [] rfl (IRow.nil _ _) _ (l.take cap) rfl hU2 (by simp; omega) (Nat.le_refl _) ?_; intro v5 w5 hr5 hb5; rw [List.nil_append] at hr5; obtain ⟨b5, c5, rfl⟩ := hr5.form; rw [hta] at hr5)
     | (at_builtin; refine wpList_appI rfl (.tmp 42) (.tmp 46) rfl w.heap.size _ (l.take cap) rfl (hr5.keep (Below.allocS (Below.refl _ _) _)) w5.heap.size 0 1 1 [(k, v)] rfl rfl (isrc1 _ k v 203) (by simp; omega) (by have := hb5.size; simp at this ⊢; omega) ?_; intro v6 w6 hr6 hb6; obtain ⟨b6, c6, rfl⟩ := hr6.form; rw [ht6] at hr6)
     | (at_builtin; refine wpList_appII rfl (.tmp 51) (.tmp 54) rfl w.heap.size _ _ rfl hr6 _ (l.drop cap) rfl (il_end2 _ _ _ (by omega) (by unfold maxLen; omega) _ HD.out) (by simp; omega) (by have := hb5.size; have := hb6.size; simp at *; omega) ?_; intro v7 w7 hr7 hb7)
     | fail)
    go_ret2
    have hb05 : Below w.heap.size w w5 := (below_drewN (Below.refl w.heap.size w) n2).trans hb5
    refine ⟨v7, rfl, ?_, ((Below.allocS hb05 _).trans hb6).trans hb7⟩
    rw [HINS.out]
    simpa only [List.append_assoc, List.cons_append, List.nil_append] using hr7
   ·go_wp2_with (first
     | (at_builtin; refine wpList_appII rfl (.tmp 37) (.tmp 40) rfl w.heap.size (.slice none 0 0) [] rfl (IRow.nil _ _) _ (l.take a) rfl hU2 (by simp; omega) (Nat.le_refl _) ?_; intro v5 w5 hr5 hb5; rw [List.nil_append] at hr5; obtain ⟨b5, c5, rfl⟩ := hr5.form; rw [hta] at hr5)
     | (at_builtin; refine wpList_appI rfl (.tmp 42) (.tmp 46) rfl w.heap.size _ (l.take a) rfl (hr5.keep (Below.allocS (Below.refl _ _) _)) w5.heap.size 0 1 1 [(k, v)] rfl rfl (isrc1 _ k v 203) (by simp; omega) (by have := hb5.size; simp at this ⊢; omega) ?_; intro v6 w6 hr6 hb6; obtain ⟨b6, c6, rfl⟩ := hr6.form; rw [ht6] at hr6)
     | (at_builtin; refine wpList_appII rfl (.tmp 51) (.tmp 54) rfl w.heap.size _ _ rfl hr6 _ (l.drop a) rfl ((il_drop hI2 a hal).keep ((Below.allocS hb5 _).trans hb6)) (by simp; omega) (by have := hb5.size; have := hb6.size; simp at *; omega) ?_; intro v7 w7 hr7 hb7)
     | fail)
    go_ret2
    have hb05 : Below w.heap.size w w5 := (below_drewN (Below.refl w.heap.size w) n2).trans hb5
    refine ⟨v7, rfl, ?_, ((Below.allocS hb05 _).trans hb6).trans hb7⟩
    rw [HINS.out]
    simpa only [List.append_assoc, List.cons_append, List.nil_append] using hr7
  ·rw [hh] at HA hins h3
   simp only [if_true] at hins
   have hd2 : a + 1 ≤ l.length := by simpa only [hh, if_true] using hd
   have HINS := Lib.hid hins
   have hal' : (a : Int) + 1 ≤ (l.length : Int) := by omega
   have hac1 : (a : Int) + 1 ≤ (cap : Int) := by omega
   have hac2 : a + 1 ≤ cap := by omega
   clear hv hd hins h3 hc hf hh
   go_enter Tryz.func95, Tryz.ntmps95
   go_wp2_with fail
   refine (HK.out _).mono ?_
   rintro e w1 ⟨rfl, rfl⟩
   go_wp2_with fail
   refine HA.out.mono ?_
   rintro e w2 ⟨rfl, n2, rfl⟩
   have hI2 := HIL.out.keep (below_drewN (Below.refl w.heap.size w) n2)
   have hU2 := hI2.upto a hal
   have hta : (l.take a).length = a := by rw [List.length_take]; omega
   have ht6 : (l.take a ++ [(k, v)]).length = a + 1 := by simp [hal]
   by_cases hca : cap = a + 1
   ·subst hca
    have HD := Lib.hid (show l.drop (a + 1) = [] from List.drop_eq_nil_of_le hn)
    go_wp2_with (first
     | (at_builtin; refine wpList_appII rfl (.tmp 37) (.tmp 40) rfl w.heap.size (.slice none 0 0) [] rfl (IRow.nil _ _) _ (l.take a) rfl hU2 (by simp; omega) (Nat.le_refl _) ?_; intro v5 w5 hr5 hb5; rw [List.nil_append] at hr5; obtain ⟨b5, c5, rfl⟩ := hr5.form; rw [hta] at hr5)
     | (at_builtin; refine wpList_appI rfl (.tmp 42) (.tmp 46) rfl w.heap.size _ (l.take a) rfl (hr5.keep (Below.allocS (Below.refl _ _) _)) w5.heap.size 0 1 1 [(k, v)] rfl rfl (isrc1 _ k v 203) (by simp; omega) (by have := hb5.size; simp at this ⊢; omega) ?_; intro v6 w6 hr6 hb6; obtain ⟨b6, c6, rfl⟩ := hr6.form; rw [ht6] at hr6)
     | (at_builtin; refine wpList_appII rfl (.tmp 51) (.tmp 54) rfl w.heap.size _ _ rfl hr6 _ (l.drop (a + 1)) rfl (il_end2 _ _ _ (by omega) (by unfold maxLen; omega) _ HD.out) (by simp; omega) (by have := hb5.size; have := hb6.size; simp at *; omega) ?_; intro v7 w7 hr7 hb7)
     | fail)
    go_ret2
    have hb05 : Below w.heap.size w w5 := (below_drewN (Below.refl w.heap.size w) n2).trans hb5
    refine ⟨v7, rfl, ?_, ((Below.allocS hb05 _).trans hb6).trans hb7⟩
    rw [HINS.out]
    simpa only [List.append_assoc, List.cons_append, List.nil_append] using hr7
   ·go_wp2_with (first
     | (at_builtin; refine wpList_appII rfl (.tmp 37) (.tmp 40) rfl w.heap.size (.slice none 0 0) [] rfl (IRow.nil _ _) _ (l.take a) rfl hU2 (by simp; omega) (Nat.le_refl _) ?_; intro v5 w5 hr5 hb5; rw [List.nil_append] at hr5; obtain ⟨b5, c5, rfl⟩ := hr5.form; rw [hta] at hr5)
     | (at_builtin; refine wpList_appI rfl (.tmp 42) (.tmp 46) rfl w.heap.size _ (l.take a) rfl (hr5.keep (Below.allocS (Below.refl _ _) _)) w5.heap.size 0 1 1 [(k, v)] rfl rfl (isrc1 _ k v 203) (by simp; omega) (by have := hb5.size; simp at this ⊢; omega) ?_; intro v6 w6 hr6 hb6; obtain ⟨b6, c6, rfl⟩ := hr6.form; rw [ht6] at hr6)
     | (at_builtin; refine wpList_appII rfl (.tmp 51) (.tmp 54) rfl w.heap.size _ _ rfl hr6 _ (l.drop (a + 1)) rfl ((il_drop hI2 (a + 1) hd2).keep ((Below.allocS hb5 _).trans hb6)) (by simp; omega) (by have := hb5.size; have := hb6.size; simp at *; omega) ?_; intro v7 w7 hr7 hb7)
     | fail)
    go_ret2
    have hb05 : Below w.heap.size w w5 := (below_drewN (Below.refl w.heap.size w) n2).trans hb5
    refine ⟨v7, rfl, ?_, ((Below.allocS hb05 _).trans hb6).trans hb7⟩
    rw [HINS.out]
    simpa only [List.append_assoc, List.cons_append, List.nil_append] using hr7
end Go.Proofs.YthkpmlfaddlieaaGreatDoor
namespace Go.Proofs.YthkpmlfaddlieaaGreatDoor
open Go.RowKit Go.Shelf Pl
structure Acc where
 name : Bs
 amount : Int
 seq : Int
def acZ : Acc := ⟨[], 0, 0⟩
def accs (x : Acc) : List Value := [.string ⟨List.toArray x.name⟩, .int .i64 x.amount, .int .i64 x.seq]
theorem row_acc : RowT Tryz.prog 87 3 := RowT.mk' Tryz.underlying87 rfl (by kernel_rfl)
def AcL (w : World) (v : Value) (l : List Acc) : Prop :=
 ∃ a cap, v = .slice a l.length cap ∧ l.length ≤ cap ∧ cap ≤ maxLen ∧ (l ≠ [] → ∃ g off, a = some ⟨g, off, none⟩ ∧ g < w.heap.size ∧ ∀ i, i < l.length → w.rangeAt g (off + i * 3) (accs (l.getD i acZ)))
theorem AcL.keep {W w : World} {v : Value} {l : List Acc} (h : AcL W v l) (hb : Below W.heap.size W w) : AcL w v l := by
 obtain ⟨a, cap, h1, h2, h3, h4⟩ := h
 refine ⟨a, cap, h1, h2, h3, fun hl => ?_⟩
 obtain ⟨g, off, e, hg, hc⟩ := h4 hl
 exact ⟨g, off, e, Nat.lt_of_lt_of_le hg hb.size, fun i hi => rg_keep (hc i hi) hg hb⟩
theorem AcL.form {w : World} {v : Value} {l : List Acc} (h : AcL w v l) : ∃ a c, v = .slice a l.length c := by
 obtain ⟨a, cap, h1, _⟩ := h
 exact ⟨a, cap, h1⟩
theorem AcL.at {w : World} {a : Option Addr} {c : Nat} {l : List Acc} (h : AcL w (.slice a l.length c) l) (i : Nat) (hi : i < l.length) :
  ∃ g off, a = some ⟨g, off, none⟩ ∧ g < w.heap.size ∧ w.rangeAt g (off + i * 3) (accs (l.getD i acZ)) := by
 obtain ⟨a', cap, h1, _, _, h5⟩ := h
 injection h1 with h1 _ _
 obtain ⟨g, off, e, hg, hc⟩ := h5 (by intro e; rw [e] at hi; simp at hi)
 exact ⟨g, off, h1.trans e, hg, hc i hi⟩
def nameB (s : Bs) : Bool := decide (1 ≤ s.length) && decide (s.length ≤ 6)
def inB (n : Int) : Bool := decide (0 ≤ n) && decide (n ≤ 1099511627776)
theorem rname_any (s : Bs) (w : World) : Calls Tryz.prog 92 #[.string ⟨s.toArray⟩] w fun e w' => e = .returned (.bool (nameB s)) ∧ w = w' := by
 generalize hz : nameB s = z
 have HZ := Lib.hid hz
 clear hz
 by_cases h1 : 1 ≤ s.length
 ·have d1 : decide ((1 : Int) ≤ (s.length : Int)) = true := by simp only [decide_eq_true_eq]; omega
  have h1' : (1 : Int) ≤ (s.length : Int) := by omega
  by_cases h2 : s.length ≤ 6
  ·have d2 : decide ((s.length : Int) ≤ 6) = true := by simp only [decide_eq_true_eq]; omega
   have HE : Hid (z = true) := Lib.hid (by rw [← HZ.out]; simp [nameB]; omega)
   clear h1 h2 HZ
   go_enter Tryz.func92, Tryz.ntmps92
   go_wp2_with fail
   go_ret
   exact ⟨by rw [HE.out]; rfl, rfl⟩
  ·have d2 : decide ((s.length : Int) ≤ 6) = false := by simp only [decide_eq_false_iff_not]; omega
   have HE : Hid (z = false) := Lib.hid (by rw [← HZ.out]; simp [nameB]; omega)
   clear h1 h2 HZ
   go_enter Tryz.func92, Tryz.ntmps92
   go_wp2_with fail
   go_ret
   exact ⟨by rw [HE.out]; rfl, rfl⟩
 ·have h0 : s = [] := List.length_eq_zero_iff.1 (by omega)
  subst h0
  have HE : Hid (z = false) := Lib.hid (by rw [← HZ.out]; rfl)
  clear h1 HZ
  go_enter Tryz.func92, Tryz.ntmps92
  go_wp2_with fail
  go_ret
  exact ⟨by rw [HE.out]; rfl, rfl⟩
theorem rwithin16_any (n : Int) (w : World) : Calls Tryz.prog 93 #[.int .i64 n] w fun e w' => e = .returned (.bool (inB n)) ∧ w = w' := by
 generalize hz : inB n = z
 have HZ := Lib.hid hz
 clear hz
 by_cases h1 : 0 ≤ n
 ·by_cases h2 : n ≤ 1099511627776
  ·have HE : Hid (z = true) := Lib.hid (by rw [← HZ.out]; simp [inB]; omega)
   clear HZ
   go_enter Tryz.func93, Tryz.ntmps93
   go_wp2_with fail
   go_ret
   exact ⟨by rw [HE.out]; rfl, rfl⟩
  ·have HE : Hid (z = false) := Lib.hid (by rw [← HZ.out]; simp [inB]; omega)
   clear HZ
   go_enter Tryz.func93, Tryz.ntmps93
   go_wp2_with fail
   go_ret
   exact ⟨by rw [HE.out]; rfl, rfl⟩
 ·have HE : Hid (z = false) := Lib.hid (by rw [← HZ.out]; simp [inB]; omega)
  clear HZ
  go_enter Tryz.func93, Tryz.ntmps93
  go_wp2_with fail
  go_ret
  exact ⟨by rw [HE.out]; rfl, rfl⟩
theorem num_len9 (n : Nat) : 1 ≤ (num n).length ∧ (num n).length ≤ 9 := by
 have h : ∀ f n, (digs f n).length ≤ f := by
  intro f
  induction f with
  | zero => intro n; simp [digs]
  | succ f ih => intro n; rcases Nat.eq_zero_or_pos n with h | h
                 ·subst h; rw [digs_zero]; simp
                 ·rw [digs_step _ _ h]; have := ih (n / 256); simp; omega
 have := h 8 n
 unfold num
 simp; omega
theorem rvalue_any (s : Bs) (m n : Nat) (hm : m ≤ 1099511627776) (hn : n ≤ 1099511627776) (w : World) : Calls Tryz.prog 96 #[.agg #[.string ⟨s.toArray⟩, .int .i64 m, .int .i64 n]] w fun e w' => e = .returned (.string ⟨List.toArray (num m ++ num n)⟩) ∧ Below w.heap.size w w' := by
 have B0 := Blk.new w #[.string ⟨s.toArray⟩, .int .i64 m, .int .i64 n] 87
 have hb0 : Below w.heap.size w (w.alloc (.cells #[.string ⟨s.toArray⟩, .int .i64 m, .int .i64 n] 87)) := Below.allocS (Below.refl _ _) _
 have hl1 := num_len9 m
 have hl2 := num_len9 n
 have q1 := fun W => rNumber_any m (by omega) W
 have q2 := fun W => rNumber_any n (by omega) W
 have hll : (num m).length + (num n).length ≤ 9223372036854775807 := by omega
 generalize num m = a at *
 generalize num n = b at *
 clear hl1 hl2
 go_enter Tryz.func96, Tryz.ntmps96
 go_wp2_with fail
 generalize w.alloc (.cells #[.string ⟨s.toArray⟩, .int .i64 m, .int .i64 n] 87) = W at *
 refine wp_held rfl (by kernel_rfl) ?_
 (refine qP ?_ ?_ ?_; rotate_left; focus (intro w; go_simp; try with_reducible rfl))
 try simp only [pna, pnb, pnc, pnd, pne]
 refine wpQ_load (by rfl) (.int .i64 m) (fun w' hb2 => (by have c := (B0.keep hb2).cell 1; go_simp; try rfl)) ?_
 try simp only [pna, pnb, pnc, pnd, pne]
 refine wpQ_call (by rfl) _ _ (.string ⟨a.toArray⟩) (callB q1) (by intro w; go_simp; try rfl) ?_
 try simp only [pna, pnb, pnc, pnd, pne]
 (refine qP ?_ ?_ ?_; rotate_left; focus (intro w; go_simp; try with_reducible rfl))
 try simp only [pna, pnb, pnc, pnd, pne]
 refine wpQ_load (by rfl) (.int .i64 n) (fun w' hb2 => (by have c := (B0.keep hb2).cell 2; go_simp; try rfl)) ?_
 try simp only [pna, pnb, pnc, pnd, pne]
 refine wpQ_call (by rfl) _ _ (.string ⟨b.toArray⟩) (callB q2) (by intro w; go_simp; try rfl) ?_
 try simp only [pna, pnb, pnc, pnd, pne]
 refine wpQ_pure (by rfl) (.string ⟨List.toArray (a ++ b)⟩) (fun w => (by go_simp)) ?_
 try simp only [pna, pnb, pnc, pnd, pne]
 (refine qP ?_ ?_ ?_; rotate_left; focus (intro w; go_simp; try with_reducible rfl))
 try simp only [pna, pnb, pnc, pnd, pne]
 intro w2 hb2
 go_wp2_with fail
 go_ret
 exact ⟨rfl, hb0.trans (hb2.mono hb0.size)⟩
end Go.Proofs.YthkpmlfaddlieaaGreatDoor
namespace Go.Proofs.YthkpmlfaddlieaaGreatDoor
open Go.RowKit Go.Shelf Pl
def GenO (W : World) (S : List (Bs × Int)) (e : Ending) (w' : World) : Prop := Below W.heap.size W w' ∧
 ((∃ c : Int, c ≠ 0 ∧ e = .returned (.tuple #[.slice none 0 0, .int .i64 c])) ∨ (∃ v l, e = .returned (.tuple #[v, .int .i64 0]) ∧ IL w' v l ∧ GoodR l ∧ chkM S = true))
theorem GenO.no {W w : World} {S : List (Bs × Int)} (c : Int) (hb : Below W.heap.size W w) (hc : c ≠ 0) : GenO W S (.returned (.tuple #[.slice none 0 0, .int .i64 c])) w := ⟨hb, .inl ⟨c, hc, rfl⟩⟩
theorem Pl.GoodR.put {l : List It} (h : GoodR l) (k v : Bs) (hk : k.length ≤ 8) (h1 : 1 ≤ v.length) (h2 : v.length ≤ 32) (hl : l.length < 1024) : GoodR (insI k v l) := by
 refine ⟨insI_rise _ _ _ h.1, by have := insI_len k v l; omega, fun x hx => ?_⟩
 rcases (insI_mem k v l h.1 x).1 hx with e | e
 ·subst e; exact ⟨hk, h1, h2⟩
 ·exact h.2.2 x e.1
theorem putE_yes {l : List It} {k v : Bs} (h0 : 1 ≤ k.length) (hk : k.length ≤ 8) (h1 : 1 ≤ v.length) (h2 : v.length ≤ 32) (hl : l.length < 1024) : putE l k v = 0 := by
 have : keyB k = true := by simp [keyB]; omega
 unfold putE
 rw [if_neg (by rw [this]; decide), if_neg]
 simp only [not_or, not_and]
 exact ⟨by omega, by omega, fun _ => by omega⟩
theorem rgenesis_any (va vs : Value) (A : List Acc) (S : List (Bs × Int)) (w : World) (hA : AcL w va A) (hS : MS w vs S) :
  Calls Tryz.prog 64 #[va, vs] w (GenO w S) := by
 obtain ⟨aa, ac, rfl⟩ := hA.form
 have HA := Lib.hid hA
 have HS := Lib.hid hS
 clear hA hS
 by_cases h8 : A.length ≤ 8
 case neg =>
  have d1 : decide ((8 : Int) < (A.length : Int)) = true := by rw [decide_eq_true_eq]; omega
  clear h8
  go_enter Tryz.func64, Tryz.ntmps64
  go_wp2_with fail
  go_ret2
  exact GenO.no 2 (Below.refl _ _) (by decide)
 have d1 : decide ((8 : Int) < (A.length : Int)) = false := by rw [decide_eq_false_iff_not]; omega
 go_enter Tryz.func64, Tryz.ntmps64
 go_wp2_with fail
 go_loopw [6, 7] (fun s6 s7 wr => ∃ (i base : Nat) (l : List It), s7 = .int .i64 i ∧ i ≤ A.length ∧ Hid (IRow wr base s6 l) ∧ Hid (GoodR l ∧ l.length ≤ i) ∧ Below w.heap.size w wr) (fun _ s7 _ => A.length - (intOf s7).toNat)
 case atStart => exact ⟨0, w.heap.size, [], rfl, Nat.zero_le _, Lib.hid (IRow.nil _ _), Lib.hid ⟨⟨by simp [Rise], by simp, by simp⟩, by simp⟩, Below.refl _ _⟩
 case round =>
  obtain ⟨i, base, l, rfl, hi, HR, HG, hb⟩ := hrel
  obtain ⟨wr, hwr⟩ := Below.name hb
  subst hwr
  by_cases hlt : i < A.length
  ·have i1 : decide ((i : Int) < (A.length : Int)) = true := by simp; omega
   have i2 : (i : Int) < (A.length : Int) := by omega
   obtain ⟨g, off, e1, hg, hr⟩ := (HA.out.keep hb).at i hlt
   obtain ⟨s6', c6, e6⟩ : ∃ a c, u6 = .slice a l.length c := HR.out.form
   subst e6
   have HLT := Lib.hid (show i + 1 ≤ 8 from by omega)
   have HL2 := Lib.hid hlt
   generalize A.getD i acZ = x at *
   obtain ⟨nm, am, sq⟩ := x
   subst e1
   have c0 : wr.cell? ⟨g, off + i * 3, none⟩ = some (.string ⟨nm.toArray⟩) := hr 0 _ rfl
   have c1 : wr.cell? ⟨g, off + i * 3 + 1, none⟩ = some (.int .i64 am) := hr 1 _ rfl
   have c2 : wr.cell? ⟨g, off + i * 3 + 2, none⟩ = some (.int .i64 sq) := hr 2 _ rfl
   have HRR := Lib.hid hr
   have q1 := rname_any nm wr
   have q2 := rwithin16_any am wr
   have q3 := rwithin16_any sq wr
   clear hlt hi hr h8
   cases hn : nameB nm
   case false =>
    rw [hn] at q1
    go_wp2_with fail
    refine q1.mono ?_
    rintro e w2 ⟨rfl, rfl⟩
    go_wp2_with fail
    go_ret2
    exact GenO.no 1 hb (by decide)
   rw [hn] at q1
   cases hm : inB am
   case false =>
    rw [hm] at q2
    go_wp2_with fail
    refine q1.mono ?_
    rintro e w2 ⟨rfl, rfl⟩
    go_wp2_with fail
    refine q2.mono ?_
    rintro e w2 ⟨rfl, rfl⟩
    go_wp2_with fail
    go_ret2
    exact GenO.no 1 hb (by decide)
   rw [hm] at q2
   cases hs : inB sq
   case false =>
    rw [hs] at q3
    go_wp2_with fail
    refine q1.mono ?_
    rintro e w2 ⟨rfl, rfl⟩
    go_wp2_with fail
    refine q2.mono ?_
    rintro e w2 ⟨rfl, rfl⟩
    go_wp2_with fail
    refine q3.mono ?_
    rintro e w2 ⟨rfl, rfl⟩
    go_wp2_with fail
    go_ret2
    exact GenO.no 1 hb (by decide)
   rw [hs] at q3
   go_wp2_with fail
   refine q1.mono ?_
   rintro e w2 ⟨rfl, rfl⟩
   go_wp2_with fail
   refine q2.mono ?_
   rintro e w2 ⟨rfl, rfl⟩
   go_wp2_with fail
   refine q3.mono ?_
   rintro e w2 ⟨rfl, rfl⟩
   have hcat : nm.length ≤ 6 ∧ 1 ≤ nm.length := by simp [nameB] at hn; omega
   have hcat2 : ¬ 9223372036854775807 < 2 + nm.length := by omega
   have qa := rat_any (.slice s6' l.length c6) l (97 :: 58 :: nm) wr HR.out.il
   unfold AtOut at qa
   go_wp2_with fail
   refine qa.mono ?_
   rintro e w3 ⟨rfl, n3, rfl⟩
   cases hh : hereI (97 :: 58 :: nm) l
   case true =>
    go_wp2_with fail
    go_ret2
    exact GenO.no 6 (below_drewN hb _) (by decide)
   obtain ⟨m, hm2⟩ : ∃ m : Nat, am = m := ⟨am.toNat, by simp [inB] at hm; omega⟩
   obtain ⟨q, hs2⟩ : ∃ q : Nat, sq = q := ⟨sq.toNat, by simp [inB] at hs; omega⟩
   subst hm2 hs2
   have hm3 : m ≤ 1099511627776 := by simp [inB] at hm; omega
   have hs3 : q ≤ 1099511627776 := by simp [inB] at hs; omega
   have hb3 : Below wr.heap.size wr (wr.drewN n3) := below_drewN (Below.refl _ _) _
   have hn1 := num_len9 m
   have hn2 := num_len9 q
   have qv := fun W => rvalue_any nm m q hm3 hs3 W
   have hpy : putE l (97 :: 58 :: nm) (num m ++ num q) = 0 := putE_yes (by simp) (by simp; omega) (by simp; omega) (by simp; omega) (by have := HG.out.2; have := HLT.out; omega)
   have qp := fun W (hb2 : Below (wr.drewN n3).heap.size (wr.drewN n3) W) => rput_yes base _ l (97 :: 58 :: nm) (num m ++ num q) HG.out.1.1 hpy (by have := HG.out.2; have := HLT.out; omega) W ((HR.out.keep hb3).keep hb2)
   have HGI : Hid (GoodR (insI (97 :: 58 :: nm) (num m ++ num q) l) ∧ (insI (97 :: 58 :: nm) (num m ++ num q) l).length ≤ i + 1) := Lib.hid ⟨HG.out.1.put _ _ (by simp; omega) (by simp; omega) (by simp; omega) (by have := HG.out.2; have := HLT.out; omega), by have := insI_len (97 :: 58 :: nm) (num m ++ num q) l; have := HG.out.2; omega⟩
   have HRN := Lib.hid (rg_keep HRR.out hg hb3)
   generalize num m ++ num q = val at *
   generalize insI (97 :: 58 :: nm) val l = L2 at *
   clear q1 q2 q3 qa hn hm hs hm3 hs3 hn1 hn2 hpy
   have hbd := hb.trans (hb3.mono hb.size)
   generalize hWN : wr.drewN n3 = WN at *
   have hgN := Nat.lt_of_lt_of_le hg hb3.size
   have c0 : WN.cell? ⟨g, off + i * 3, none⟩ = some (.string ⟨nm.toArray⟩) := HRN.out 0 _ rfl
   clear hb hb3 hWN hg
   go_wp2_with fail
   refine wpH_start (by kernel_rfl) (fun hS => ?_)
   (refine hP 0 ?_ ⟨some 57, .move (.tmp 6), 38, "", #[], none⟩ hS ?_ ?_; rotate_left; focus (intro w; go_simp; try with_reducible rfl))
   try simp only [pna, pnb, pnc, pnd, pne]
   (refine hP 1 ?_ ⟨some 58, .move (.tmp 0), 22, "", #[], none⟩ hS ?_ ?_; rotate_left; focus (intro w; go_simp; try with_reducible rfl))
   try simp only [pna, pnb, pnc, pnd, pne]
   (refine hP 2 ?_ ⟨some 59, .move (.tmp 7), 3, "", #[], none⟩ hS ?_ ?_; rotate_left; focus (intro w; go_simp; try with_reducible rfl))
   try simp only [pna, pnb, pnc, pnd, pne]
   refine wpH_load 3 (.pointer (some ⟨g, off + i * 3, none⟩)) (oi := ⟨some 60,.indexAddr 22 (.tmp 58) (.tmp 59),0,"ref.go:48",#[⟨1,.data⟩, ⟨2,.data⟩],none⟩) rfl (by kernel_rfl) (by kernel_rfl) (by kernel_rfl) (by rfl) hS (fun _ _ _ h => h) (fun w' hb2 => (by go_simp)) ?_
   try simp only [pna, pnb, pnc, pnd, pne]
   (refine hP 4 ?_ ⟨some 61, .fieldAddr 87 (.tmp 60) 0, 0, "", #[], none⟩ hS ?_ ?_; rotate_left; focus (intro w; go_simp; try with_reducible rfl))
   try simp only [pna, pnb, pnc, pnd, pne]
   refine wpH_load 5 (.string ⟨nm.toArray⟩) (oi := ⟨some 62,.load 9 (.tmp 61),9,"ref.go:48",#[⟨4,.data⟩],none⟩) rfl (by kernel_rfl) (by kernel_rfl) (by kernel_rfl) (by rfl) hS (fun _ _ _ h => h) (fun w' hb2 => (by have c := (hb2.cell (p := ⟨g, off + i * 3, none⟩) hgN).trans c0; go_simp; try rfl)) ?_
   try simp only [pna, pnb, pnc, pnd, pne]
   refine wpH_load 6 (.string ⟨List.toArray (97 :: 58 :: nm)⟩) (oi := ⟨some 63,.binOp BinOp.add 9 (.const (Value.string { data := #[97, 58] })) (.tmp 62) 9,9,"ref.go:48",#[⟨5,.data⟩],none⟩) rfl (by kernel_rfl) (by kernel_rfl) (by kernel_rfl) (by rfl) hS (fun _ _ _ h => h) (fun w' hb2 => (by go_simp)) ?_
   try simp only [pna, pnb, pnc, pnd, pne]
   (refine hP 7 ?_ ⟨some 64, .move (.tmp 0), 22, "", #[], none⟩ hS ?_ ?_; rotate_left; focus (intro w; go_simp; try with_reducible rfl))
   try simp only [pna, pnb, pnc, pnd, pne]
   (refine hP 8 ?_ ⟨some 65, .move (.tmp 7), 3, "", #[], none⟩ hS ?_ ?_; rotate_left; focus (intro w; go_simp; try with_reducible rfl))
   try simp only [pna, pnb, pnc, pnd, pne]
   refine wpH_load 9 (.pointer (some ⟨g, off + i * 3, none⟩)) (oi := ⟨some 66,.indexAddr 22 (.tmp 64) (.tmp 65),0,"ref.go:48",#[⟨7,.data⟩, ⟨8,.data⟩],none⟩) rfl (by kernel_rfl) (by kernel_rfl) (by kernel_rfl) (by rfl) hS (fun _ _ _ h => h) (fun w' hb2 => (by go_simp)) ?_
   try simp only [pna, pnb, pnc, pnd, pne]
   refine wpH_load 10 (.agg (accs ⟨nm, m, q⟩).toArray) (oi := ⟨some 67,.load 87 (.tmp 66),87,"ref.go:48",#[⟨9,.data⟩],none⟩) rfl (by kernel_rfl) (by kernel_rfl) (by kernel_rfl) (by rfl) hS (fun _ _ _ h => h) (fun w' hb2 => exec_rowR row_acc (.tmp 66) rfl rfl rfl (rg_keep HRN.out hgN hb2)) ?_
   try simp only [pna, pnb, pnc, pnd, pne]
   refine wpH_call 11 (oi := ⟨some 68,.call { callee := .value (.func 96), args := #[.tmp 67], argTypes := #[87] },9,"ref.go:48",#[⟨10,.data⟩],none⟩) rfl (by kernel_rfl) (by rfl) (qv _) ?_ ?_
   ·(go_simp; try rfl)
   rintro e w' ⟨rfl, hbx⟩
   refine ⟨_, rfl, hS.trans (hbx.mono hS.size), ?_⟩
   replace hS := hS.trans (hbx.mono hS.size)
   try simp only [pna, pnb, pnc, pnd, pne]
   refine wpH_call 12 (oi := ⟨some 69,.call { callee := .value (.func 95), args := #[.tmp 57, .tmp 63, .tmp 68], argTypes := #[38, 9, 9] },141,"ref.go:48",#[⟨0,.data⟩, ⟨6,.data⟩, ⟨11,.data⟩, ⟨11,.chain⟩],none⟩) rfl (by kernel_rfl) (by rfl) (qp _ hS) ?_ ?_
   ·(go_simp; try rfl)
   rintro e w' ⟨u2, rfl, hr2, hbx⟩
   refine ⟨_, rfl, hS.trans (hbx.mono hS.size), ?_⟩
   replace hS := hS.trans (hbx.mono hS.size)
   try simp only [pna, pnb, pnc, pnd, pne]
   (refine hP 13 ?_ ⟨some 56, .move (.tmp 69), 141, "", #[], none⟩ hS ?_ ?_; rotate_left; focus (intro w; go_simp; try with_reducible rfl))
   try simp only [pna, pnb, pnc, pnd, pne]
   (refine hP 14 ?_ ⟨some 70, .extract (.tmp 56) 0, 38, "", #[], none⟩ hS ?_ ?_; rotate_left; focus (intro w; go_simp; try with_reducible rfl))
   try simp only [pna, pnb, pnc, pnd, pne]
   (refine hP 15 ?_ ⟨some 71, .extract (.tmp 56) 1, 34, "", #[], none⟩ hS ?_ ?_; rotate_left; focus (intro w; go_simp; try with_reducible rfl))
   try simp only [pna, pnb, pnc, pnd, pne]
   (refine hP 16 ?_ ⟨some 6, .assign (.tmp 70), 38, "", #[], none⟩ hS ?_ ?_; rotate_left; focus (intro w; go_simp; try with_reducible rfl))
   try simp only [pna, pnb, pnc, pnd, pne]
   refine wpAnyH_done (by kernel_rfl) ?_ _
   have HL3 := Lib.hid (hbd.trans (hS.mono hbd.size))
   have hi8 := HLT.out
   clear hbx hS
   go_wp2_with fail
   exact ⟨⟨i + 1, _, L2, by go_num, HL2.out, Lib.hid hr2, HGI, HL3.out⟩, by have := HL2.out; simp [intOf]; omega⟩
  ·have i1 : decide ((i : Int) < (A.length : Int)) = false := by simp; omega
   have hch := rmcheck_any vs S wr (HS.out.keep hb)
   obtain ⟨s6', c6, e6⟩ : ∃ a c, u6 = .slice a l.length c := HR.out.form
   subst e6
   cases hc : chkM S
   case false =>
    rw [hc] at hch
    go_wp2_with fail
    refine hch.mono ?_
    rintro e w3 ⟨rfl, n3, rfl⟩
    go_wp2_with fail
    go_ret2
    exact GenO.no 50 (below_drewN hb _) (by decide)
   rw [hc] at hch
   have hb3 := fun n => below_drewN hb n
   have hdl : (dgM S).length = 32 := by unfold dgM; rw [if_pos hc]; exact tagP_len _ _
   have hpy : putE l [115] (dgM S) = 0 := putE_yes (by simp) (by simp) (by omega) (by omega) (by have := HG.out.2; omega)
   have qd := fun W (hb2 : Below wr.heap.size wr W) => rmdigest_any vs S W ((HS.out.keep hb).keep hb2)
   have qp := fun W (hb2 : Below wr.heap.size wr W) => rput_yes base (.slice s6' l.length c6) l [115] (dgM S) HG.out.1.1 hpy (by have := HG.out.2; omega) W (HR.out.keep hb2)
   have HGI := Lib.hid (HG.out.1.put [115] (dgM S) (by simp) (by omega) (by omega) (by have := HG.out.2; omega))
   generalize dgM S = D at *
   generalize insI [115] D l = L2 at *
   have HC := Lib.hid hc
   have HB := Lib.hid hb
   clear hdl hpy hc hb hb3 h8 hi
   go_wp2_with fail
   refine hch.mono ?_
   rintro e w3 ⟨rfl, n3, rfl⟩
   go_wp2_with fail
   have hb3 : Below wr.heap.size wr (wr.drewN n3) := below_drewN (Below.refl _ _) _
   refine (qd _ hb3).mono ?_
   rintro e w4 ⟨rfl, hb4⟩
   have hb5 := hb3.trans (hb4.mono hb3.size)
   go_wp2_with fail
   refine (qp _ hb5).mono ?_
   rintro e w5 ⟨u5, rfl, hr5, hb6⟩
   go_wp2_with fail
   go_ret2
   exact ⟨(HB.out.trans (hb5.mono HB.out.size)).trans (hb6.mono (Nat.le_trans HB.out.size hb5.size)), .inr ⟨u5, L2, rfl, hr5.il, HGI.out, HC.out⟩⟩
end Go.Proofs.YthkpmlfaddlieaaGreatDoor
