/- AtP, Ref10, Ref11. -/
import Derived.Test.YtdaihimdkgmboaaDoorMg11
import Derived.Test.YtdaihimdkgmboaaDoorMg12
import Derived.Test.YtdaihimdkgmboaaDoorMh1
import Derived.Test.YtdaihimdkgmboaaDoorMg13
set_option linter.unnecessarySimpa false

/- Plain: the place of a key among items; what is put, by that place. -/
set_option linter.unusedSimpArgs false
set_option linter.unusedVariables false
namespace Go.Proofs.YtdaihimdkgmboaaDoor
namespace Pl

def atI (k : Bs) : List It → Nat
  | [] => 0
  | x :: r => if x.1 < k then atI k r + 1 else 0
def hereI (k : Bs) (l : List It) : Bool := match l.drop (atI k l) with
  | [] => false
  | x :: _ => x.1 == k
theorem atI_le (k : Bs) : ∀ l, atI k l ≤ l.length
  | [] => by simp [atI]
  | x :: r => by
    have := atI_le k r
    unfold atI
    split <;> simp <;> omega
theorem atI_below (k : Bs) : ∀ (l : List It) (i : Nat), i < atI k l → (l.getD i ([], [])).1 < k
  | [], i, h => by simp [atI] at h
  | x :: r, i, h => by
    unfold atI at h
    split at h
    · rename_i hx
      cases i with
      | zero => simpa using hx
      | succ i => simpa using atI_below k r i (by omega)
    · omega
theorem atI_not (k : Bs) : ∀ (l : List It), atI k l < l.length → ¬ (l.getD (atI k l) ([], [])).1 < k
  | [], h => by simp at h
  | x :: r, h => by
    unfold atI at h ⊢
    split
    · rename_i hx
      rw [if_pos hx] at h
      simpa using atI_not k r (by simpa using h)
    · rename_i hx
      simpa using hx
theorem atI_eq (k : Bs) : ∀ (l : List It) (i : Nat), i ≤ l.length → (∀ j, j < i → (l.getD j ([], [])).1 < k) → (i < l.length → ¬ (l.getD i ([], [])).1 < k) → atI k l = i
  | [], i, h, _, _ => by simp at h; simp [atI, h]
  | x :: r, 0, _, _, h => by
    have := h (by simp)
    simp at this
    simp [atI, this]
  | x :: r, i + 1, h, h1, h2 => by
    have h0 := h1 0 (by omega)
    simp at h0
    have := atI_eq k r i (by simpa using h) (fun j hj => by simpa using h1 (j + 1) (by omega)) (fun hi => by simpa using h2 (by simpa using hi))
    simp [atI, h0, this]
theorem hereI_at (k : Bs) (l : List It) : hereI k l = (decide (atI k l < l.length) && ((l.getD (atI k l) ([], [])).1 == k)) := by
  unfold hereI
  rcases Nat.lt_or_ge (atI k l) l.length with h | h
  · rw [List.drop_eq_getElem_cons h]
    simp [h, List.getD_eq_getElem?_getD]
  · rw [List.drop_eq_nil_of_le h]
    simp; omega
theorem insI_at (k v : Bs) : ∀ (l : List It), insI k v l = l.take (atI k l) ++ (k, v) :: l.drop (if hereI k l then atI k l + 1 else atI k l)
  | [] => by simp [insI, atI]
  | x :: r => by
    have ih := insI_at k v r
    by_cases h1 : x.1 < k
    · have e1 : hereI k (x :: r) = hereI k r := by unfold hereI; simp [atI, h1]
      have e2 : atI k (x :: r) = atI k r + 1 := by simp [atI, h1]
      rw [e1, e2]
      unfold insI
      rw [if_pos h1, ih]
      by_cases h2 : hereI k r = true
      · simp [h2]
      · simp [h2]
    · have e1 : hereI k (x :: r) = (x.1 == k) := by unfold hereI; simp [atI, h1]
      have e2 : atI k (x :: r) = 0 := by simp [atI, h1]
      rw [e1, e2]
      unfold insI
      rw [if_neg h1]
      by_cases h2 : x.1 = k
      · simp [h2]
      · simp [h2]
theorem hasK_here (k : Bs) : ∀ (l : List It), Rise l → hasK k l = hereI k l
  | [], _ => by simp [hasK, hereI]
  | x :: r, h => by
    unfold Rise at h
    rw [List.pairwise_cons] at h
    have ih := hasK_here k r h.2
    by_cases h1 : x.1 < k
    · have hne : (x.1 == k) = false := by simpa using fun e => List.lt_irrefl _ (e ▸ h1)
      have : hereI k (x :: r) = hereI k r := by unfold hereI; simp [atI, h1]
      rw [this, ← ih]
      simp [hasK, hne]
    · have : hereI k (x :: r) = (x.1 == k) := by unfold hereI; simp [atI, h1]
      rw [this]
      by_cases h2 : x.1 = k
      · simp [hasK, h2]
      · have h3 := lt_of_not h1 h2
        have : hasK k r = false := by
          unfold hasK
          rw [List.any_eq_false]
          intro y hy e
          have e' : y.1 = k := by simpa using e
          exact List.lt_irrefl _ (List.lt_trans h3 (e' ▸ h.1 y hy))
        unfold hasK at this ⊢
        rw [List.any_cons, this]
        simp
end Pl
end Go.Proofs.YtdaihimdkgmboaaDoor

/- Walks of the document's answer for layer 10: what is put; items of a list. -/
set_option linter.unusedSimpArgs false
set_option linter.unusedVariables false
namespace Go.Proofs.YtdaihimdkgmboaaDoor
open Go.RowKit Pl

def AtOut (l : List It) (k : Bs) (w : World) (e : Ending) (w' : World) : Prop := e = .returned (.tuple #[.int .i64 ((atI k l : Nat)), .bool (hereI k l)]) ∧ ∃ n, w' = w.drewN n
set_option maxRecDepth 100000 in
set_option maxHeartbeats 2000000 in
theorem rat_any (v : Value) (l : List It) (k : Bs) (w : World) (hv : IL w v l) :
    Calls Tryd.prog 58 #[v, .string ⟨List.toArray (k)⟩] w (AtOut l k w) := by
  obtain ⟨va, vc, rfl⟩ := hv.form
  have hls := hv.small
  have HV := Lib.hid hv
  clear hv
  go_enter Tryd.func58, Tryd.ntmps58
  go_wp2_with fail
  go_loopw [6] (fun s6 wr => ∃ i : Nat, s6 = .int .i64 (i) ∧ i ≤ l.length ∧ Hid (∀ j, j < i → (l.getD j ([], [])).1 < k) ∧ wr = w) (fun s6 _ => l.length - (intOf s6).toNat)
  case atStart => exact ⟨0, rfl, Nat.zero_le _, Lib.hid (fun j hj => absurd hj (by omega)), rfl⟩
  case round =>
    obtain ⟨i, rfl, hi, HJ, rfl⟩ := hrel
    by_cases hlt : i < l.length
    · have i1 : decide ((i : Int) < (l.length : Int)) = true := by simp; omega
      have i0 : 0 ≤ (i : Int) ∧ (i : Int) < (l.length : Int) := by omega
      have i2 : (i : Int) < (l.length : Int) := by omega
      obtain ⟨g, off, e1, hg, c1, _⟩ := HV.out.at i hlt
      subst e1
      have HNX := Lib.hid (fun (h : (l.getD i ([], [])).1 < k) j (hj : j < i + 1) => show (l.getD j ([], [])).1 < k from by
        rcases Nat.lt_or_ge j i with h1 | h1
        · exact HJ.out j h1
        · have : j = i := by omega
          subst this; exact h)
      have HEQ := Lib.hid (fun (h : ¬ (l.getD i ([], [])).1 < k) => atI_eq k l i (by omega) HJ.out (fun _ => h))
      have HHR := Lib.hid (hereI_at k l)
      have HLT := Lib.hid hlt
      clear hlt
      generalize hx : (l.getD i ([], [])).1 = xk at *
      have HX := Lib.hid hx
      clear hx
      by_cases h : xk < k
      · have k1 : decide (xk < k) = true := by simpa using h
        have HN := Lib.hid (HNX.out h)
        clear h HNX HEQ
        go_wp2_with fail
        exact ⟨⟨i + 1, by go_num, by have := HLT.out; omega, HN, trivial⟩, by have := HLT.out; simp [intOf]; omega⟩
      · have k1 : decide (xk < k) = false := by simpa using h
        have HE := Lib.hid (HEQ.out h)
        clear h HNX HEQ
        by_cases h2 : xk = k
        · subst h2
          have HH : Hid (hereI xk l = true) := Lib.hid (by rw [HHR.out, HE.out, HX.out]; simp [HLT.out])
          go_wp2_with fail
          go_quiet (fail)
          go_wp2_with fail
          go_ret2
          exact ⟨by rw [HE.out, HH.out]; rfl, _, rfl⟩
        · have e2 : (xk == k) = false := by simpa using h2
          have e3 : decide (xk = k) = false := by simpa using h2
          have HH : Hid (hereI k l = false) := Lib.hid (by rw [HHR.out, HE.out, HX.out]; simp [e2])
          clear h2
          go_wp2_with fail
          go_quiet (fail)
          go_wp2_with fail
          go_ret2
          exact ⟨by rw [HE.out, HH.out]; rfl, _, rfl⟩
    · have e : i = l.length := by omega
      have HE : Hid (atI k l = l.length) := Lib.hid (by subst e; exact atI_eq k l _ (Nat.le_refl _) HJ.out (fun h => absurd h (Nat.lt_irrefl _)))
      have HH : Hid (hereI k l = false) := Lib.hid (by rw [hereI_at, HE.out]; simp)
      have i1 : decide ((i : Int) < (l.length : Int)) = false := by simp; omega
      clear hlt
      go_wp2_with fail
      go_ret2
      exact ⟨by rw [HE.out, HH.out]; rfl, 0, rfl⟩
theorem rkeyed_any (k : Bs) (w : World) : Calls Tryd.prog 57 #[.string ⟨List.toArray (k)⟩] w fun e w' => e = .returned (.bool (keyB k)) ∧ w = w' := by
  generalize hz : keyB k = z
  have HZ := Lib.hid hz
  clear hz
  by_cases h1 : 1 ≤ k.length
  · have d1 : decide ((1 : Int) ≤ (k.length : Int)) = true := by simp only [decide_eq_true_eq]; omega
    by_cases h2 : k.length ≤ 8
    · have d2 : decide ((k.length : Int) ≤ 8) = true := by simp only [decide_eq_true_eq]; omega
      have HE : Hid (z = true) := Lib.hid (by rw [← HZ.out]; simp [keyB]; omega)
      have h1' : (1 : Int) ≤ (k.length : Int) := by omega
      clear h1 h2 HZ
      go_enter Tryd.func57, Tryd.ntmps57
      go_wp2_with fail
      go_ret
      exact ⟨by rw [HE.out]; rfl, rfl⟩
    · have d2 : decide ((k.length : Int) ≤ 8) = false := by simp only [decide_eq_false_iff_not]; omega
      have HE : Hid (z = false) := Lib.hid (by rw [← HZ.out]; simp [keyB]; omega)
      clear h1 h2 HZ
      go_enter Tryd.func57, Tryd.ntmps57
      go_wp2_with fail
      go_ret
      exact ⟨by rw [HE.out]; rfl, rfl⟩
  · have h0 : k = [] := List.length_eq_zero_iff.1 (by omega)
    subst h0
    have HE : Hid (z = false) := Lib.hid (by rw [← HZ.out]; rfl)
    clear h1 HZ
    go_enter Tryd.func57, Tryd.ntmps57
    go_wp2_with fail
    go_ret
    exact ⟨by rw [HE.out]; rfl, rfl⟩

/-- What a put that is refused tells. -/
def RNo (B : Nat) (w : World) (c : Int) (e : Ending) (w' : World) : Prop := e = .returned (.tuple #[.slice none 0 0, .int .i64 (c)]) ∧ Below B w w'
set_option maxRecDepth 100000 in
set_option maxHeartbeats 4000000 in
theorem rput_no (val : Value) (l : List It) (k v : Bs) (hris : Rise l) (h0 : putE l k v ≠ 0) (hll : l.length ≤ 1000000) (w : World) (hv : IL w val l) :
    Calls Tryd.prog 28 #[val, .string ⟨List.toArray (k)⟩, .string ⟨List.toArray (v)⟩] w (RNo w.heap.size w (putE l k v)) := by
  have HK := Lib.hid (rkeyed_any k)
  have HA := Lib.hid (rat_any val l k w hv)
  obtain ⟨va, vc, rfl⟩ := hv.form
  have hcs := putE_cases l k v
  rw [hasK_here k l hris] at hcs
  clear hv hris
  rcases hcs with ⟨h, h1⟩ | ⟨h, h1, h2⟩ | ⟨h, _⟩
  · rw [h]
    rw [h1] at HK
    clear h h0 h1
    go_enter Tryd.func28, Tryd.ntmps28
    go_wp2_with fail
    refine (HK.out _).mono ?_
    rintro e w1 ⟨rfl, rfl⟩
    go_wp2_with fail
    go_ret2
    exact ⟨rfl, Below.refl _ _⟩
  · rw [h]
    rw [h1] at HK
    clear h h0 h1
    by_cases q1 : v.length < 1
    · have d1 : decide ((v.length : Int) < 1) = true := by simp only [decide_eq_true_eq]; omega
      clear h2 q1
      go_enter Tryd.func28, Tryd.ntmps28
      go_wp2_with fail
      refine (HK.out _).mono ?_
      rintro e w1 ⟨rfl, rfl⟩
      go_wp2_with fail
      refine HA.out.mono ?_
      rintro e w2 ⟨rfl, n2, rfl⟩
      go_wp2_with fail
      go_ret2
      exact ⟨rfl, below_drewN (Below.refl _ _) _⟩
    · have d1 : decide ((v.length : Int) < 1) = false := by simp only [decide_eq_false_iff_not]; omega
      by_cases q2 : 32 < v.length
      · have d2 : decide ((32 : Int) < (v.length : Int)) = true := by simp only [decide_eq_true_eq]; omega
        clear h2 q1 q2
        go_enter Tryd.func28, Tryd.ntmps28
        go_wp2_with fail
        refine (HK.out _).mono ?_
        rintro e w1 ⟨rfl, rfl⟩
        go_wp2_with fail
        refine HA.out.mono ?_
        rintro e w2 ⟨rfl, n2, rfl⟩
        go_wp2_with fail
        go_ret2
        exact ⟨rfl, below_drewN (Below.refl _ _) _⟩
      · have d2 : decide ((32 : Int) < (v.length : Int)) = false := by simp only [decide_eq_false_iff_not]; omega
        have h3 : hereI k l = false ∧ 1024 ≤ l.length := by
          rcases h2 with h2 | h2
          · omega
          · exact h2.2
        have d3 : decide ((1024 : Int) ≤ (l.length : Int)) = true := by simp only [decide_eq_true_eq]; omega
        have HA2 : Hid (Calls Tryd.prog 58 #[.slice va l.length vc, .string ⟨List.toArray (k)⟩] w fun e w' => e = .returned (.tuple #[.int .i64 ((atI k l : Nat)), .bool false]) ∧ ∃ n, w' = w.drewN n) := Lib.hid (by
          have := HA.out
          unfold AtOut at this
          rw [h3.1] at this
          exact this)
        clear h2 q1 q2 h3 HA
        go_enter Tryd.func28, Tryd.ntmps28
        go_wp2_with fail
        refine (HK.out _).mono ?_
        rintro e w1 ⟨rfl, rfl⟩
        go_wp2_with fail
        refine HA2.out.mono ?_
        rintro e w2 ⟨rfl, n2, rfl⟩
        go_wp2_with fail
        go_ret2
        exact ⟨rfl, below_drewN (Below.refl _ _) _⟩
  · exact absurd h h0

/-- A list from a place on, at the address that a slice expression gives. -/
theorem il_drop {w : World} {g cap : Nat} {l : List It} (h : IL w (.slice (some ⟨g, 0, none⟩) l.length cap) l) (k : Nat) (hk : k ≤ l.length) : IL w (.slice (some ⟨g, k * 2, none⟩) (l.length - k) (cap - k)) (l.drop k) := by
  obtain ⟨a', cap', h1, h2, h3, h5⟩ := h
  injection h1 with e1 _ e3
  subst e1 e3
  have hl : (l.drop k).length = l.length - k := List.length_drop
  refine ⟨_, cap - k, by rw [hl], by omega, by omega, fun hn => ?_⟩
  obtain ⟨g', off, e, hg, hc⟩ := h5 (by intro e; rw [e] at hn; simp at hn)
  injection e with e
  injection e with e1 e2 _
  subst e1 e2
  refine ⟨g, k * 2, rfl, hg, fun i hi => ?_⟩
  rw [getD_dropI]
  have := hc (k + i) (by omega)
  rw [Nat.zero_add] at this
  rw [show k * 2 + i * 2 = (k + i) * 2 from by omega]
  exact this
theorem il_end2 {w : World} (a : Option Addr) (n c : Nat) (hn : n = 0) (h : c ≤ maxLen) (l : List It) (hl : l = []) : IL w (.slice a n c) l := by
  subst hn hl
  exact ⟨a, c, rfl, Nat.zero_le _, h, fun h => absurd rfl h⟩
theorem il_end {w : World} (a : Option Addr) (c : Nat) (h : c ≤ maxLen) : IL w (.slice a 0 c) [] := ⟨a, c, rfl, Nat.zero_le _, h, fun h => absurd rfl h⟩

def RYes (B : Nat) (w : World) (l : List It) (e : Ending) (w' : World) : Prop := ∃ v, e = .returned (.tuple #[v, .int .i64 (0)]) ∧ IRow w' B v l ∧ Below B w w'
set_option maxRecDepth 100000 in
set_option maxHeartbeats 4000000 in
theorem rput_yes (base : Nat) (val : Value) (l : List It) (k v : Bs) (hris : Rise l) (h0 : putE l k v = 0) (hll : l.length ≤ 1000000) (w : World) (hv : IRow w base val l) :
    Calls Tryd.prog 28 #[val, .string ⟨List.toArray (k)⟩, .string ⟨List.toArray (v)⟩] w (RYes w.heap.size w (insI k v l)) := by
  have HK := Lib.hid (rkeyed_any k)
  have HA := Lib.hid (rat_any val l k w hv.il)
  have hcs := putE_cases l k v
  rw [hasK_here k l hris] at hcs
  have hins := insI_at k v l
  have hal := atI_le k l
  have hah := hereI_at k l
  rcases hcs with ⟨h, _⟩ | ⟨h, _⟩ | ⟨_, h1, h2, h3⟩
  · rw [h0] at h; cases h
  · rw [h0] at h; cases h
  rw [h1] at HK
  have d1 : decide ((v.length : Int) < 1) = false := by simp only [decide_eq_false_iff_not]; omega
  have d2 : decide ((32 : Int) < (v.length : Int)) = false := by simp only [decide_eq_false_iff_not]; omega
  have hd : (if hereI k l = true then atI k l + 1 else atI k l) ≤ l.length := by
    split
    · rename_i h
      rw [hah] at h
      simp at h
      omega
    · exact hal
  unfold AtOut at HA
  clear h0 h1 h2 hris hah
  generalize insI k v l = out at *
  generalize atI k l = a at *
  rcases hv.cells with ⟨rfl, rfl⟩ | ⟨g, cap, rfl, hbg, hg, hn, hm, hc, hf⟩
  · have ha0 : a = 0 := by simpa using hal
    subst ha0
    have hh : hereI k [] = false := rfl
    rw [hh] at HA hins
    have HINS := Lib.hid hins
    clear hv hal hd hins h3 hh hll
    go_enter Tryd.func28, Tryd.ntmps28
    go_wp2_with fail
    refine (HK.out _).mono ?_
    rintro e w1 ⟨rfl, rfl⟩
    go_wp2_with fail
    refine HA.out.mono ?_
    rintro e w2 ⟨rfl, n2, rfl⟩
    go_wp2_with (first
      | (at_builtin; refine wpList_appII rfl (.tmp 37) (.tmp 40) rfl w.heap.size (.slice none 0 0) [] rfl (IRow.nil _ _) _ [] rfl (il_end none 0 (by unfold maxLen; omega)) (by simp) (Nat.le_refl _) ?_; intro v5 w5 hr5 hb5)
      | (at_builtin; refine wpList_appI rfl (.tmp 42) (.tmp 46) rfl w.heap.size v5 [] rfl (hr5.keep (Below.allocS (Below.refl _ _) _)) w5.heap.size 0 1 1 [(k, v)] rfl rfl (isrc1 _ k v 44) (by simp) (by have := hb5.size; simp at this ⊢; omega) ?_; intro v6 w6 hr6 hb6)
      | (at_builtin; refine wpList_appII rfl (.tmp 51) (.tmp 54) rfl w.heap.size v6 _ rfl hr6 _ [] rfl (il_end none 0 (by unfold maxLen; omega)) (by simp) (by have := hb5.size; have := hb6.size; simp at *; omega) ?_; intro v7 w7 hr7 hb7)
      | fail)
    go_ret2
    have hb05 : Below w.heap.size w w5 := (below_drewN (Below.refl w.heap.size w) n2).trans hb5
    exact ⟨v7, rfl, by rw [HINS.out]; exact hr7, ((Below.allocS hb05 _).trans hb6).trans hb7⟩
  · have HIL := Lib.hid hv.il
    have hac : (a : Int) ≤ (cap : Int) := by omega
    have hac' : a ≤ cap := by omega
    have hls : (l.length : Int) ≤ 1000000 := by omega
    unfold maxLen at hm
    cases hh : hereI k l
    · rw [hh] at HA hins h3
      simp only [Bool.false_eq_true, if_false] at hins
      have hl24 : decide ((1024 : Int) ≤ (l.length : Int)) = false := by
        simp only [decide_eq_false_iff_not]
        rcases h3 with h3 | h3
        · cases h3
        · omega
      have HINS := Lib.hid hins
      have hal' : (a : Int) ≤ (l.length : Int) := by omega
      clear hv hd hins h3 hc hf hh
      go_enter Tryd.func28, Tryd.ntmps28
      go_wp2_with fail
      refine (HK.out _).mono ?_
      rintro e w1 ⟨rfl, rfl⟩
      go_wp2_with fail
      refine HA.out.mono ?_
      rintro e w2 ⟨rfl, n2, rfl⟩
      have hI2 := HIL.out.keep (below_drewN (Below.refl w.heap.size w) n2)
      have hU2 := hI2.upto a hal
      have hta : (l.take a).length = a := by rw [List.length_take]; omega
      have ht6 : (l.take a ++ [(k, v)]).length = a + 1 := by simp [hal]
      by_cases hca : cap = a
      · subst hca
        have HD := Lib.hid (show l.drop cap = [] from List.drop_eq_nil_of_le hn)
        go_wp2_with (first
          | (at_builtin; refine wpList_appII rfl (.tmp 37) (.tmp 40) rfl w.heap.size (.slice none 0 0) [] rfl (IRow.nil _ _) _ (l.take cap) rfl hU2 (by simp; omega) (Nat.le_refl _) ?_; intro v5 w5 hr5 hb5; rw [List.nil_append] at hr5; obtain ⟨b5, c5, rfl⟩ := hr5.form; rw [hta] at hr5)
          | (at_builtin; refine wpList_appI rfl (.tmp 42) (.tmp 46) rfl w.heap.size _ (l.take cap) rfl (hr5.keep (Below.allocS (Below.refl _ _) _)) w5.heap.size 0 1 1 [(k, v)] rfl rfl (isrc1 _ k v 44) (by simp; omega) (by have := hb5.size; simp at this ⊢; omega) ?_; intro v6 w6 hr6 hb6; obtain ⟨b6, c6, rfl⟩ := hr6.form; rw [ht6] at hr6)
          | (at_builtin; refine wpList_appII rfl (.tmp 51) (.tmp 54) rfl w.heap.size _ _ rfl hr6 _ (l.drop cap) rfl (il_end2 _ _ _ (by omega) (by unfold maxLen; omega) _ HD.out) (by simp; omega) (by have := hb5.size; have := hb6.size; simp at *; omega) ?_; intro v7 w7 hr7 hb7)
          | fail)
        go_ret2
        have hb05 : Below w.heap.size w w5 := (below_drewN (Below.refl w.heap.size w) n2).trans hb5
        refine ⟨v7, rfl, ?_, ((Below.allocS hb05 _).trans hb6).trans hb7⟩
        rw [HINS.out]
        simpa only [List.append_assoc, List.cons_append, List.nil_append] using hr7
      · go_wp2_with (first
          | (at_builtin; refine wpList_appII rfl (.tmp 37) (.tmp 40) rfl w.heap.size (.slice none 0 0) [] rfl (IRow.nil _ _) _ (l.take a) rfl hU2 (by simp; omega) (Nat.le_refl _) ?_; intro v5 w5 hr5 hb5; rw [List.nil_append] at hr5; obtain ⟨b5, c5, rfl⟩ := hr5.form; rw [hta] at hr5)
          | (at_builtin; refine wpList_appI rfl (.tmp 42) (.tmp 46) rfl w.heap.size _ (l.take a) rfl (hr5.keep (Below.allocS (Below.refl _ _) _)) w5.heap.size 0 1 1 [(k, v)] rfl rfl (isrc1 _ k v 44) (by simp; omega) (by have := hb5.size; simp at this ⊢; omega) ?_; intro v6 w6 hr6 hb6; obtain ⟨b6, c6, rfl⟩ := hr6.form; rw [ht6] at hr6)
          | (at_builtin; refine wpList_appII rfl (.tmp 51) (.tmp 54) rfl w.heap.size _ _ rfl hr6 _ (l.drop a) rfl ((il_drop hI2 a hal).keep ((Below.allocS hb5 _).trans hb6)) (by simp; omega) (by have := hb5.size; have := hb6.size; simp at *; omega) ?_; intro v7 w7 hr7 hb7)
          | fail)
        go_ret2
        have hb05 : Below w.heap.size w w5 := (below_drewN (Below.refl w.heap.size w) n2).trans hb5
        refine ⟨v7, rfl, ?_, ((Below.allocS hb05 _).trans hb6).trans hb7⟩
        rw [HINS.out]
        simpa only [List.append_assoc, List.cons_append, List.nil_append] using hr7
    · rw [hh] at HA hins h3
      simp only [if_true] at hins
      have hd2 : a + 1 ≤ l.length := by simpa only [hh, if_true] using hd
      have HINS := Lib.hid hins
      have hal' : (a : Int) + 1 ≤ (l.length : Int) := by omega
      have hac1 : (a : Int) + 1 ≤ (cap : Int) := by omega
      have hac2 : a + 1 ≤ cap := by omega
      clear hv hd hins h3 hc hf hh
      go_enter Tryd.func28, Tryd.ntmps28
      go_wp2_with fail
      refine (HK.out _).mono ?_
      rintro e w1 ⟨rfl, rfl⟩
      go_wp2_with fail
      refine HA.out.mono ?_
      rintro e w2 ⟨rfl, n2, rfl⟩
      have hI2 := HIL.out.keep (below_drewN (Below.refl w.heap.size w) n2)
      have hU2 := hI2.upto a hal
      have hta : (l.take a).length = a := by rw [List.length_take]; omega
      have ht6 : (l.take a ++ [(k, v)]).length = a + 1 := by simp [hal]
      by_cases hca : cap = a + 1
      · subst hca
        have HD := Lib.hid (show l.drop (a + 1) = [] from List.drop_eq_nil_of_le hn)
        go_wp2_with (first
          | (at_builtin; refine wpList_appII rfl (.tmp 37) (.tmp 40) rfl w.heap.size (.slice none 0 0) [] rfl (IRow.nil _ _) _ (l.take a) rfl hU2 (by simp; omega) (Nat.le_refl _) ?_; intro v5 w5 hr5 hb5; rw [List.nil_append] at hr5; obtain ⟨b5, c5, rfl⟩ := hr5.form; rw [hta] at hr5)
          | (at_builtin; refine wpList_appI rfl (.tmp 42) (.tmp 46) rfl w.heap.size _ (l.take a) rfl (hr5.keep (Below.allocS (Below.refl _ _) _)) w5.heap.size 0 1 1 [(k, v)] rfl rfl (isrc1 _ k v 44) (by simp; omega) (by have := hb5.size; simp at this ⊢; omega) ?_; intro v6 w6 hr6 hb6; obtain ⟨b6, c6, rfl⟩ := hr6.form; rw [ht6] at hr6)
          | (at_builtin; refine wpList_appII rfl (.tmp 51) (.tmp 54) rfl w.heap.size _ _ rfl hr6 _ (l.drop (a + 1)) rfl (il_end2 _ _ _ (by omega) (by unfold maxLen; omega) _ HD.out) (by simp; omega) (by have := hb5.size; have := hb6.size; simp at *; omega) ?_; intro v7 w7 hr7 hb7)
          | fail)
        go_ret2
        have hb05 : Below w.heap.size w w5 := (below_drewN (Below.refl w.heap.size w) n2).trans hb5
        refine ⟨v7, rfl, ?_, ((Below.allocS hb05 _).trans hb6).trans hb7⟩
        rw [HINS.out]
        simpa only [List.append_assoc, List.cons_append, List.nil_append] using hr7
      · go_wp2_with (first
          | (at_builtin; refine wpList_appII rfl (.tmp 37) (.tmp 40) rfl w.heap.size (.slice none 0 0) [] rfl (IRow.nil _ _) _ (l.take a) rfl hU2 (by simp; omega) (Nat.le_refl _) ?_; intro v5 w5 hr5 hb5; rw [List.nil_append] at hr5; obtain ⟨b5, c5, rfl⟩ := hr5.form; rw [hta] at hr5)
          | (at_builtin; refine wpList_appI rfl (.tmp 42) (.tmp 46) rfl w.heap.size _ (l.take a) rfl (hr5.keep (Below.allocS (Below.refl _ _) _)) w5.heap.size 0 1 1 [(k, v)] rfl rfl (isrc1 _ k v 44) (by simp; omega) (by have := hb5.size; simp at this ⊢; omega) ?_; intro v6 w6 hr6 hb6; obtain ⟨b6, c6, rfl⟩ := hr6.form; rw [ht6] at hr6)
          | (at_builtin; refine wpList_appII rfl (.tmp 51) (.tmp 54) rfl w.heap.size _ _ rfl hr6 _ (l.drop (a + 1)) rfl ((il_drop hI2 (a + 1) hd2).keep ((Below.allocS hb5 _).trans hb6)) (by simp; omega) (by have := hb5.size; have := hb6.size; simp at *; omega) ?_; intro v7 w7 hr7 hb7)
          | fail)
        go_ret2
        have hb05 : Below w.heap.size w w5 := (below_drewN (Below.refl w.heap.size w) n2).trans hb5
        refine ⟨v7, rfl, ?_, ((Below.allocS hb05 _).trans hb6).trans hb7⟩
        rw [HINS.out]
        simpa only [List.append_assoc, List.cons_append, List.nil_append] using hr7

theorem IRow.mono {w : World} {b b' : Nat} {v : Value} {l : List It} (h : IRow w b v l) (hb : b' ≤ b) : IRow w b' v l := by
  obtain ⟨h1, h2⟩ := h
  refine ⟨h1, ?_⟩
  rcases h2 with h2 | ⟨g, cap, cur, e, hg, hr⟩
  · exact .inl h2
  · exact .inr ⟨g, cap, cur, e, Nat.le_trans hb hg, hr⟩
/-- What Of tells. -/
def ROfP (l : List It) (B : Nat) (w : World) (e : Ending) (w' : World) : Prop :=
  Below B w w' ∧ (((ofI [] l).2 = 0 ∧ ∃ v, e = .returned (.tuple #[v, .int .i64 (0)]) ∧ IRow w' B v (ofI [] l).1) ∨ ((ofI [] l).2 ≠ 0 ∧ e = .returned (.tuple #[.slice none 0 0, .int .i64 ((ofI [] l).2)])))
set_option maxRecDepth 100000 in
set_option maxHeartbeats 4000000 in
theorem rof_any (v : Value) (l : List It) (w : World) (hv : IL w v l) :
    Calls Tryd.prog 10 #[v] w (ROfP l w.heap.size w) := by
  obtain ⟨va, vc, rfl⟩ := hv.form
  have hls := hv.small
  have HV := Lib.hid hv
  generalize hz : ofI [] l = z
  have HZ := Lib.hid hz
  have HP : Hid (∀ e w', (Below w.heap.size w w' ∧ ((z.2 = 0 ∧ ∃ v, e = .returned (.tuple #[v, .int .i64 (0)]) ∧ IRow w' w.heap.size v z.1) ∨ (z.2 ≠ 0 ∧ e = .returned (.tuple #[.slice none 0 0, .int .i64 (z.2)])))) → ROfP l w.heap.size w e w') := Lib.hid (by
    intro e w' h
    unfold ROfP
    rw [hz]; exact h)
  clear hv hz
  go_enter Tryd.func10, Tryd.ntmps10
  go_wp2_with fail
  go_loopw [4, 5] (fun s4 s5 wr => ∃ (i : Nat) (acc : List It), Hid (IRow wr w.heap.size s4 acc) ∧ Hid (GoodI acc) ∧ s5 = .int .i64 (i) ∧ i ≤ l.length ∧ Hid (z = ofI acc (l.drop i)) ∧ Below w.heap.size w wr) (fun _ s5 _ => l.length - (intOf s5).toNat)
  case atStart => exact ⟨0, [], Lib.hid (IRow.nil _ _), Lib.hid GoodI.nil, rfl, Nat.zero_le _, Lib.hid (by rw [List.drop_zero]; exact HZ.out.symm), Below.refl _ _⟩
  case round =>
    obtain ⟨i, acc, HR, HG, rfl, hi, HQ, hb⟩ := hrel
    clear HZ
    by_cases hlt : i < l.length
    · have d1 : decide ((i : Int) < (l.length : Int)) = true := by simp; omega
      have i0 : 0 ≤ (i : Int) ∧ (i : Int) < (l.length : Int) := by omega
      obtain ⟨g, off, rfl, hg, e1, e2⟩ := (HV.out.keep hb).at i hlt
      have hdr := dropI l i hlt
      have hQ2 := HQ.out
      rw [hdr] at hQ2
      clear hdr HQ
      generalize l.getD i ([], []) = x at *
      obtain ⟨k, u⟩ := x
      simp only at e1 e2
      unfold ofI at hQ2
      simp only at hQ2
      have hbs := hb.size
      by_cases h0 : putE acc k u = 0
      · rw [if_pos h0] at hQ2
        have HPU := Lib.hid (fun W h => rput_yes w.heap.size u4 acc k u HG.out.rise h0 (by have := HG.out.many; omega) W h)
        have HG2 := Lib.hid (HG.out.put k u h0).1
        have HQ2 := Lib.hid hQ2
        clear h0 hQ2 HG
        go_wp2_with fail
        refine wpH_start (by kernel_rfl) (fun hS => ?_)
        (refine wpH_pure 0 ?_ (oi := { dst := some 15, op := Op.move (Operand.tmp 4), type := 25, pos := "ref.go:82", after := #[], guard := none }) rfl (by kernel_rfl) (by kernel_rfl) (by kernel_rfl) (by rfl) hS (fun _ _ _ h => h) ?_ ?_; rotate_left; focus (intro w; go_simp; try with_reducible rfl))
        try simp only [Act.put, List.setIfInBounds_toArray, List.set_cons_zero, List.set_cons_succ]
        (refine wpH_pure 1 ?_ (oi := { dst := some 16, op := Op.move (Operand.tmp 0), type := 25, pos := "ref.go:82", after := #[], guard := none }) rfl (by kernel_rfl) (by kernel_rfl) (by kernel_rfl) (by rfl) hS (fun _ _ _ h => h) ?_ ?_; rotate_left; focus (intro w; go_simp; try with_reducible rfl))
        try simp only [Act.put, List.setIfInBounds_toArray, List.set_cons_zero, List.set_cons_succ]
        (refine wpH_pure 2 ?_ (oi := { dst := some 17, op := Op.move (Operand.tmp 5), type := 3, pos := "ref.go:82", after := #[], guard := none }) rfl (by kernel_rfl) (by kernel_rfl) (by kernel_rfl) (by rfl) hS (fun _ _ _ h => h) ?_ ?_; rotate_left; focus (intro w; go_simp; try with_reducible rfl))
        try simp only [Act.put, List.setIfInBounds_toArray, List.set_cons_zero, List.set_cons_succ]
        (refine wpH_pure 3 ?_ (oi := { dst := some 18, op := Op.indexAddr 25 (Operand.tmp 16) (Operand.tmp 17), type := 0, pos := "ref.go:82", after := #[{ on := 1, ground := Ground.data }, { on := 2, ground := Ground.data }], guard := none }) rfl (by kernel_rfl) (by kernel_rfl) (by kernel_rfl) (by rfl) hS (fun _ _ _ h => h) ?_ ?_; rotate_left; focus (intro w; go_simp; try with_reducible rfl))
        try simp only [Act.put, List.setIfInBounds_toArray, List.set_cons_zero, List.set_cons_succ]
        (refine wpH_pure 4 ?_ (oi := { dst := some 19, op := Op.fieldAddr 44 (Operand.tmp 18) 0, type := 0, pos := "ref.go:82", after := #[{ on := 3, ground := Ground.data }], guard := none }) rfl (by kernel_rfl) (by kernel_rfl) (by kernel_rfl) (by rfl) hS (fun _ _ _ h => h) ?_ ?_; rotate_left; focus (intro w; go_simp; try with_reducible rfl))
        try simp only [Act.put, List.setIfInBounds_toArray, List.set_cons_zero, List.set_cons_succ]
        refine wpH_load 5 (.string ⟨List.toArray (k)⟩) (oi := { dst := some 20, op := Op.load 9 (Operand.tmp 19), type := 9, pos := "ref.go:82", after := #[{ on := 4, ground := Ground.data }], guard := none }) rfl (by kernel_rfl) (by kernel_rfl) (by kernel_rfl) (by rfl) hS (fun _ _ _ h => h) (fun w hb2 => (by have c := (hb2.cell (p := ⟨g, off + i * 2, none⟩) hg).trans e1; go_simp; try rfl)) ?_
        try simp only [Act.put, List.setIfInBounds_toArray, List.set_cons_zero, List.set_cons_succ]
        (refine wpH_pure 6 ?_ (oi := { dst := some 21, op := Op.move (Operand.tmp 0), type := 25, pos := "ref.go:82", after := #[], guard := none }) rfl (by kernel_rfl) (by kernel_rfl) (by kernel_rfl) (by rfl) hS (fun _ _ _ h => h) ?_ ?_; rotate_left; focus (intro w; go_simp; try with_reducible rfl))
        try simp only [Act.put, List.setIfInBounds_toArray, List.set_cons_zero, List.set_cons_succ]
        (refine wpH_pure 7 ?_ (oi := { dst := some 22, op := Op.move (Operand.tmp 5), type := 3, pos := "ref.go:82", after := #[], guard := none }) rfl (by kernel_rfl) (by kernel_rfl) (by kernel_rfl) (by rfl) hS (fun _ _ _ h => h) ?_ ?_; rotate_left; focus (intro w; go_simp; try with_reducible rfl))
        try simp only [Act.put, List.setIfInBounds_toArray, List.set_cons_zero, List.set_cons_succ]
        (refine wpH_pure 8 ?_ (oi := { dst := some 23, op := Op.indexAddr 25 (Operand.tmp 21) (Operand.tmp 22), type := 0, pos := "ref.go:82", after := #[{ on := 6, ground := Ground.data }, { on := 7, ground := Ground.data }], guard := none }) rfl (by kernel_rfl) (by kernel_rfl) (by kernel_rfl) (by rfl) hS (fun _ _ _ h => h) ?_ ?_; rotate_left; focus (intro w; go_simp; try with_reducible rfl))
        try simp only [Act.put, List.setIfInBounds_toArray, List.set_cons_zero, List.set_cons_succ]
        (refine wpH_pure 9 ?_ (oi := { dst := some 24, op := Op.fieldAddr 44 (Operand.tmp 23) 1, type := 0, pos := "ref.go:82", after := #[{ on := 8, ground := Ground.data }], guard := none }) rfl (by kernel_rfl) (by kernel_rfl) (by kernel_rfl) (by rfl) hS (fun _ _ _ h => h) ?_ ?_; rotate_left; focus (intro w; go_simp; try with_reducible rfl))
        try simp only [Act.put, List.setIfInBounds_toArray, List.set_cons_zero, List.set_cons_succ]
        refine wpH_load 10 (.string ⟨List.toArray (u)⟩) (oi := { dst := some 25, op := Op.load 9 (Operand.tmp 24), type := 9, pos := "ref.go:82", after := #[{ on := 9, ground := Ground.data }], guard := none }) rfl (by kernel_rfl) (by kernel_rfl) (by kernel_rfl) (by rfl) hS (fun _ _ _ h => h) (fun w hb2 => (by have c := (hb2.cell (p := ⟨g, off + i * 2 + 1, none⟩) hg).trans e2; go_simp; try rfl)) ?_
        try simp only [Act.put, List.setIfInBounds_toArray, List.set_cons_zero, List.set_cons_succ]
        refine wpH_call 11 (oi := { dst := some 26, op := Op.call { callee := Callee.value (Operand.func 28), args := #[Operand.tmp 15, Operand.tmp 20, Operand.tmp 25], argTypes := #[25, 9, 9] }, type := 28, pos := "ref.go:82", after := #[{ on := 0, ground := Ground.data }, { on := 5, ground := Ground.data }, { on := 10, ground := Ground.data }], guard := none }) rfl (by kernel_rfl) (by rfl) (HPU.out _ (HR.out.keep hS)) ?_ ?_
        · (go_simp; try rfl)
        rintro e w' ⟨v2, rfl, hr2, hb2⟩
        refine ⟨_, rfl, hS.trans (hb2.mono hS.size), ?_⟩
        replace hS := hS.trans (hb2.mono hS.size)
        try simp only [Act.put, List.setIfInBounds_toArray, List.set_cons_zero, List.set_cons_succ]
        (refine wpH_pure 12 ?_ (oi := { dst := some 14, op := Op.move (Operand.tmp 26), type := 28, pos := "ref.go:82", after := #[{ on := 11, ground := Ground.data }], guard := none }) rfl (by kernel_rfl) (by kernel_rfl) (by kernel_rfl) (by rfl) hS (fun _ _ _ h => h) ?_ ?_; rotate_left; focus (intro w; go_simp; try with_reducible rfl))
        try simp only [Act.put, List.setIfInBounds_toArray, List.set_cons_zero, List.set_cons_succ]
        (refine wpH_pure 13 ?_ (oi := { dst := some 27, op := Op.extract (Operand.tmp 14) 0, type := 25, pos := "ref.go:82", after := #[{ on := 12, ground := Ground.data }], guard := none }) rfl (by kernel_rfl) (by kernel_rfl) (by kernel_rfl) (by rfl) hS (fun _ _ _ h => h) ?_ ?_; rotate_left; focus (intro w; go_simp; try with_reducible rfl))
        try simp only [Act.put, List.setIfInBounds_toArray, List.set_cons_zero, List.set_cons_succ]
        (refine wpH_pure 14 ?_ (oi := { dst := some 28, op := Op.extract (Operand.tmp 14) 1, type := 27, pos := "ref.go:82", after := #[{ on := 12, ground := Ground.data }, { on := 15, ground := Ground.gcOnly Departure.lateStores }], guard := none }) rfl (by kernel_rfl) (by kernel_rfl) (by kernel_rfl) (by rfl) hS (fun _ _ _ h => h) ?_ ?_; rotate_left; focus (intro w; go_simp; try with_reducible rfl))
        try simp only [Act.put, List.setIfInBounds_toArray, List.set_cons_zero, List.set_cons_succ]
        (refine wpH_pure 15 ?_ (oi := { dst := some 6, op := Op.assign (Operand.tmp 27), type := 25, pos := "ref.go:82", after := #[{ on := 13, ground := Ground.data }, { on := 11, ground := Ground.chain }, { on := 0, ground := Ground.phase }, { on := 1, ground := Ground.phase }, { on := 2, ground := Ground.phase }, { on := 3, ground := Ground.phase }, { on := 4, ground := Ground.phase }, { on := 5, ground := Ground.phase }, { on := 6, ground := Ground.phase }, { on := 7, ground := Ground.phase }, { on := 8, ground := Ground.phase }, { on := 9, ground := Ground.phase }, { on := 10, ground := Ground.phase }, { on := 11, ground := Ground.phase }, { on := 12, ground := Ground.phase }, { on := 13, ground := Ground.phase }, { on := 14, ground := Ground.textOnly Departure.lateStores }], guard := none }) rfl (by kernel_rfl) (by kernel_rfl) (by kernel_rfl) (by rfl) hS (fun _ _ _ h => h) ?_ ?_; rotate_left; focus (intro w; go_simp; try with_reducible rfl))
        try simp only [Act.put, List.setIfInBounds_toArray, List.set_cons_zero, List.set_cons_succ]
        (refine wpH_pure 16 ?_ (oi := { dst := some 7, op := Op.assign (Operand.tmp 28), type := 27, pos := "ref.go:82", after := #[{ on := 14, ground := Ground.data }, { on := 15, ground := Ground.chain }, { on := 0, ground := Ground.phase }, { on := 1, ground := Ground.phase }, { on := 2, ground := Ground.phase }, { on := 3, ground := Ground.phase }, { on := 4, ground := Ground.phase }, { on := 5, ground := Ground.phase }, { on := 6, ground := Ground.phase }, { on := 7, ground := Ground.phase }, { on := 8, ground := Ground.phase }, { on := 9, ground := Ground.phase }, { on := 10, ground := Ground.phase }, { on := 11, ground := Ground.phase }, { on := 12, ground := Ground.phase }, { on := 13, ground := Ground.phase }, { on := 14, ground := Ground.phase }, { on := 15, ground := Ground.phase }], guard := none }) rfl (by kernel_rfl) (by kernel_rfl) (by kernel_rfl) (by rfl) hS (fun _ _ _ h => h) ?_ ?_; rotate_left; focus (intro w; go_simp; try with_reducible rfl))
        try simp only [Act.put, List.setIfInBounds_toArray, List.set_cons_zero, List.set_cons_succ]
        refine wpAnyH_done (by kernel_rfl) ?_ _
        go_wp2_with fail
        exact ⟨⟨i + 1, insI k u acc, Lib.hid (hr2.mono hbs), HG2, by go_num, by omega, HQ2, hb.trans (hS.mono hbs)⟩, by simp [intOf]; omega⟩
      · rw [if_neg h0] at hQ2
        have HPU := Lib.hid (fun W h => rput_no u4 acc k u HG.out.rise h0 (by have := HG.out.many; omega) W h)
        have HQ2 := Lib.hid hQ2
        have h0' : (putE acc k u == 0) = false := by simpa using h0
        have HN0 := Lib.hid h0
        clear h0 hQ2 HG
        generalize putE acc k u = c at *
        go_wp2_with fail
        refine wpH_start (by kernel_rfl) (fun hS => ?_)
        (refine wpH_pure 0 ?_ (oi := { dst := some 15, op := Op.move (Operand.tmp 4), type := 25, pos := "ref.go:82", after := #[], guard := none }) rfl (by kernel_rfl) (by kernel_rfl) (by kernel_rfl) (by rfl) hS (fun _ _ _ h => h) ?_ ?_; rotate_left; focus (intro w; go_simp; try with_reducible rfl))
        try simp only [Act.put, List.setIfInBounds_toArray, List.set_cons_zero, List.set_cons_succ]
        (refine wpH_pure 1 ?_ (oi := { dst := some 16, op := Op.move (Operand.tmp 0), type := 25, pos := "ref.go:82", after := #[], guard := none }) rfl (by kernel_rfl) (by kernel_rfl) (by kernel_rfl) (by rfl) hS (fun _ _ _ h => h) ?_ ?_; rotate_left; focus (intro w; go_simp; try with_reducible rfl))
        try simp only [Act.put, List.setIfInBounds_toArray, List.set_cons_zero, List.set_cons_succ]
        (refine wpH_pure 2 ?_ (oi := { dst := some 17, op := Op.move (Operand.tmp 5), type := 3, pos := "ref.go:82", after := #[], guard := none }) rfl (by kernel_rfl) (by kernel_rfl) (by kernel_rfl) (by rfl) hS (fun _ _ _ h => h) ?_ ?_; rotate_left; focus (intro w; go_simp; try with_reducible rfl))
        try simp only [Act.put, List.setIfInBounds_toArray, List.set_cons_zero, List.set_cons_succ]
        (refine wpH_pure 3 ?_ (oi := { dst := some 18, op := Op.indexAddr 25 (Operand.tmp 16) (Operand.tmp 17), type := 0, pos := "ref.go:82", after := #[{ on := 1, ground := Ground.data }, { on := 2, ground := Ground.data }], guard := none }) rfl (by kernel_rfl) (by kernel_rfl) (by kernel_rfl) (by rfl) hS (fun _ _ _ h => h) ?_ ?_; rotate_left; focus (intro w; go_simp; try with_reducible rfl))
        try simp only [Act.put, List.setIfInBounds_toArray, List.set_cons_zero, List.set_cons_succ]
        (refine wpH_pure 4 ?_ (oi := { dst := some 19, op := Op.fieldAddr 44 (Operand.tmp 18) 0, type := 0, pos := "ref.go:82", after := #[{ on := 3, ground := Ground.data }], guard := none }) rfl (by kernel_rfl) (by kernel_rfl) (by kernel_rfl) (by rfl) hS (fun _ _ _ h => h) ?_ ?_; rotate_left; focus (intro w; go_simp; try with_reducible rfl))
        try simp only [Act.put, List.setIfInBounds_toArray, List.set_cons_zero, List.set_cons_succ]
        refine wpH_load 5 (.string ⟨List.toArray (k)⟩) (oi := { dst := some 20, op := Op.load 9 (Operand.tmp 19), type := 9, pos := "ref.go:82", after := #[{ on := 4, ground := Ground.data }], guard := none }) rfl (by kernel_rfl) (by kernel_rfl) (by kernel_rfl) (by rfl) hS (fun _ _ _ h => h) (fun w hb2 => (by have c := (hb2.cell (p := ⟨g, off + i * 2, none⟩) hg).trans e1; go_simp; try rfl)) ?_
        try simp only [Act.put, List.setIfInBounds_toArray, List.set_cons_zero, List.set_cons_succ]
        (refine wpH_pure 6 ?_ (oi := { dst := some 21, op := Op.move (Operand.tmp 0), type := 25, pos := "ref.go:82", after := #[], guard := none }) rfl (by kernel_rfl) (by kernel_rfl) (by kernel_rfl) (by rfl) hS (fun _ _ _ h => h) ?_ ?_; rotate_left; focus (intro w; go_simp; try with_reducible rfl))
        try simp only [Act.put, List.setIfInBounds_toArray, List.set_cons_zero, List.set_cons_succ]
        (refine wpH_pure 7 ?_ (oi := { dst := some 22, op := Op.move (Operand.tmp 5), type := 3, pos := "ref.go:82", after := #[], guard := none }) rfl (by kernel_rfl) (by kernel_rfl) (by kernel_rfl) (by rfl) hS (fun _ _ _ h => h) ?_ ?_; rotate_left; focus (intro w; go_simp; try with_reducible rfl))
        try simp only [Act.put, List.setIfInBounds_toArray, List.set_cons_zero, List.set_cons_succ]
        (refine wpH_pure 8 ?_ (oi := { dst := some 23, op := Op.indexAddr 25 (Operand.tmp 21) (Operand.tmp 22), type := 0, pos := "ref.go:82", after := #[{ on := 6, ground := Ground.data }, { on := 7, ground := Ground.data }], guard := none }) rfl (by kernel_rfl) (by kernel_rfl) (by kernel_rfl) (by rfl) hS (fun _ _ _ h => h) ?_ ?_; rotate_left; focus (intro w; go_simp; try with_reducible rfl))
        try simp only [Act.put, List.setIfInBounds_toArray, List.set_cons_zero, List.set_cons_succ]
        (refine wpH_pure 9 ?_ (oi := { dst := some 24, op := Op.fieldAddr 44 (Operand.tmp 23) 1, type := 0, pos := "ref.go:82", after := #[{ on := 8, ground := Ground.data }], guard := none }) rfl (by kernel_rfl) (by kernel_rfl) (by kernel_rfl) (by rfl) hS (fun _ _ _ h => h) ?_ ?_; rotate_left; focus (intro w; go_simp; try with_reducible rfl))
        try simp only [Act.put, List.setIfInBounds_toArray, List.set_cons_zero, List.set_cons_succ]
        refine wpH_load 10 (.string ⟨List.toArray (u)⟩) (oi := { dst := some 25, op := Op.load 9 (Operand.tmp 24), type := 9, pos := "ref.go:82", after := #[{ on := 9, ground := Ground.data }], guard := none }) rfl (by kernel_rfl) (by kernel_rfl) (by kernel_rfl) (by rfl) hS (fun _ _ _ h => h) (fun w hb2 => (by have c := (hb2.cell (p := ⟨g, off + i * 2 + 1, none⟩) hg).trans e2; go_simp; try rfl)) ?_
        try simp only [Act.put, List.setIfInBounds_toArray, List.set_cons_zero, List.set_cons_succ]
        refine wpH_call 11 (oi := { dst := some 26, op := Op.call { callee := Callee.value (Operand.func 28), args := #[Operand.tmp 15, Operand.tmp 20, Operand.tmp 25], argTypes := #[25, 9, 9] }, type := 28, pos := "ref.go:82", after := #[{ on := 0, ground := Ground.data }, { on := 5, ground := Ground.data }, { on := 10, ground := Ground.data }], guard := none }) rfl (by kernel_rfl) (by rfl) (HPU.out _ (HR.out.il.keep hS)) ?_ ?_
        · (go_simp; try rfl)
        rintro e w' ⟨rfl, hb2⟩
        refine ⟨_, rfl, hS.trans (hb2.mono hS.size), ?_⟩
        replace hS := hS.trans (hb2.mono hS.size)
        try simp only [Act.put, List.setIfInBounds_toArray, List.set_cons_zero, List.set_cons_succ]
        (refine wpH_pure 12 ?_ (oi := { dst := some 14, op := Op.move (Operand.tmp 26), type := 28, pos := "ref.go:82", after := #[{ on := 11, ground := Ground.data }], guard := none }) rfl (by kernel_rfl) (by kernel_rfl) (by kernel_rfl) (by rfl) hS (fun _ _ _ h => h) ?_ ?_; rotate_left; focus (intro w; go_simp; try with_reducible rfl))
        try simp only [Act.put, List.setIfInBounds_toArray, List.set_cons_zero, List.set_cons_succ]
        (refine wpH_pure 13 ?_ (oi := { dst := some 27, op := Op.extract (Operand.tmp 14) 0, type := 25, pos := "ref.go:82", after := #[{ on := 12, ground := Ground.data }], guard := none }) rfl (by kernel_rfl) (by kernel_rfl) (by kernel_rfl) (by rfl) hS (fun _ _ _ h => h) ?_ ?_; rotate_left; focus (intro w; go_simp; try with_reducible rfl))
        try simp only [Act.put, List.setIfInBounds_toArray, List.set_cons_zero, List.set_cons_succ]
        (refine wpH_pure 14 ?_ (oi := { dst := some 28, op := Op.extract (Operand.tmp 14) 1, type := 27, pos := "ref.go:82", after := #[{ on := 12, ground := Ground.data }, { on := 15, ground := Ground.gcOnly Departure.lateStores }], guard := none }) rfl (by kernel_rfl) (by kernel_rfl) (by kernel_rfl) (by rfl) hS (fun _ _ _ h => h) ?_ ?_; rotate_left; focus (intro w; go_simp; try with_reducible rfl))
        try simp only [Act.put, List.setIfInBounds_toArray, List.set_cons_zero, List.set_cons_succ]
        (refine wpH_pure 15 ?_ (oi := { dst := some 6, op := Op.assign (Operand.tmp 27), type := 25, pos := "ref.go:82", after := #[{ on := 13, ground := Ground.data }, { on := 11, ground := Ground.chain }, { on := 0, ground := Ground.phase }, { on := 1, ground := Ground.phase }, { on := 2, ground := Ground.phase }, { on := 3, ground := Ground.phase }, { on := 4, ground := Ground.phase }, { on := 5, ground := Ground.phase }, { on := 6, ground := Ground.phase }, { on := 7, ground := Ground.phase }, { on := 8, ground := Ground.phase }, { on := 9, ground := Ground.phase }, { on := 10, ground := Ground.phase }, { on := 11, ground := Ground.phase }, { on := 12, ground := Ground.phase }, { on := 13, ground := Ground.phase }, { on := 14, ground := Ground.textOnly Departure.lateStores }], guard := none }) rfl (by kernel_rfl) (by kernel_rfl) (by kernel_rfl) (by rfl) hS (fun _ _ _ h => h) ?_ ?_; rotate_left; focus (intro w; go_simp; try with_reducible rfl))
        try simp only [Act.put, List.setIfInBounds_toArray, List.set_cons_zero, List.set_cons_succ]
        (refine wpH_pure 16 ?_ (oi := { dst := some 7, op := Op.assign (Operand.tmp 28), type := 27, pos := "ref.go:82", after := #[{ on := 14, ground := Ground.data }, { on := 15, ground := Ground.chain }, { on := 0, ground := Ground.phase }, { on := 1, ground := Ground.phase }, { on := 2, ground := Ground.phase }, { on := 3, ground := Ground.phase }, { on := 4, ground := Ground.phase }, { on := 5, ground := Ground.phase }, { on := 6, ground := Ground.phase }, { on := 7, ground := Ground.phase }, { on := 8, ground := Ground.phase }, { on := 9, ground := Ground.phase }, { on := 10, ground := Ground.phase }, { on := 11, ground := Ground.phase }, { on := 12, ground := Ground.phase }, { on := 13, ground := Ground.phase }, { on := 14, ground := Ground.phase }, { on := 15, ground := Ground.phase }], guard := none }) rfl (by kernel_rfl) (by kernel_rfl) (by kernel_rfl) (by rfl) hS (fun _ _ _ h => h) ?_ ?_; rotate_left; focus (intro w; go_simp; try with_reducible rfl))
        try simp only [Act.put, List.setIfInBounds_toArray, List.set_cons_zero, List.set_cons_succ]
        refine wpAnyH_done (by kernel_rfl) ?_ _
        go_wp2_with fail
        go_ret2
        exact HP.out _ _ ⟨hb.trans (hS.mono hbs), .inr ⟨by rw [HQ2.out]; exact HN0.out, by rw [HQ2.out]; rfl⟩⟩
    · have e : i = l.length := by omega
      subst e
      have hQ2 := HQ.out
      rw [List.drop_length] at hQ2
      have HQ2 := Lib.hid hQ2
      clear hQ2 HQ
      go_wp2_with fail
      go_ret2
      exact HP.out _ _ ⟨hb, .inl ⟨by rw [HQ2.out]; rfl, _, rfl, by rw [HQ2.out]; exact HR.out⟩⟩
end Go.Proofs.YtdaihimdkgmboaaDoor

/- Walks of the document's answer for layer 11: ranges. -/
set_option linter.unusedSimpArgs false
set_option linter.unusedVariables false
namespace Go.Proofs.YtdaihimdkgmboaaDoor
open Go.RowKit Pl

theorem rin_any (k f e : Bs) (w : World) : Calls Tryd.prog 32 #[.string ⟨List.toArray (k)⟩, .string ⟨List.toArray (f)⟩, .string ⟨List.toArray (e)⟩] w fun e' w' => e' = .returned (.bool (inR f e k)) ∧ w = w' := by
  generalize hz : inR f e k = z
  have HZ := Lib.hid hz
  clear hz
  by_cases h1 : k < f
  · have HE : Hid (z = false) := Lib.hid (by rw [← HZ.out]; simp [inR, h1])
    have d1 : decide (k < f) = true := by simpa using h1
    clear h1 HZ
    go_enter Tryd.func32, Tryd.ntmps32
    go_wp2_with fail
    go_ret
    exact ⟨by rw [HE.out]; rfl, rfl⟩
  · have d1 : decide (k < f) = false := by simpa using h1
    by_cases h2 : e = []
    · subst h2
      have HE : Hid (z = true) := Lib.hid (by rw [← HZ.out]; simp [inR, h1])
      clear h1 HZ
      go_enter Tryd.func32, Tryd.ntmps32
      go_wp2_with fail
      go_ret
      exact ⟨by rw [HE.out]; rfl, rfl⟩
    · have d2 : e.isEmpty = false := by simpa using h2
      have HE : Hid (z = decide (k < e)) := Lib.hid (by rw [← HZ.out]; simp [inR, h1, h2])
      clear h1 h2 HZ
      go_enter Tryd.func32, Tryd.ntmps32
      go_wp2_with fail
      go_ret
      exact ⟨by rw [HE.out]; rfl, rfl⟩

set_option maxRecDepth 100000 in
set_option maxHeartbeats 2000000 in
theorem rall_any (v : Value) (l : List It) (hl : l.length ≤ 1000000) (f e : Bs) (w : World) (hv : IL w v l) :
    Calls Tryd.prog 17 #[v, .string ⟨List.toArray (f)⟩, .string ⟨List.toArray (e)⟩] w (RowP w.heap.size w (allI f e l)) := by
  obtain ⟨va, vc, rfl⟩ := hv.form
  have HV := Lib.hid hv
  clear hv
  go_enter Tryd.func17, Tryd.ntmps17
  go_wp2_with fail
  go_loopw [7, 8] (fun s7 s8 wr => ∃ (i : Nat) (X : List It), s8 = .int .i64 (i) ∧ i ≤ l.length ∧ Hid (IRow wr w.heap.size s7 X) ∧ Hid (X = allI f e (l.take i)) ∧ Hid (X.length ≤ i) ∧ Below w.heap.size w wr) (fun _ s8 _ => l.length - (intOf s8).toNat)
  case atStart => exact ⟨0, [], rfl, Nat.zero_le _, Lib.hid (IRow.nil _ _), Lib.hid (by simp [allI]), Lib.hid (by simp), Below.refl _ _⟩
  case round =>
    obtain ⟨i, X, rfl, hi, HX, HA, HXL, hb⟩ := hrel
    obtain ⟨xa, xc, rfl⟩ := HX.out.form
    by_cases hlt : i < l.length
    · have i1 : decide ((i : Int) < (l.length : Int)) = true := by simp; omega
      have i0 : 0 ≤ (i : Int) ∧ (i : Int) < (l.length : Int) := by omega
      obtain ⟨g, off, e1, hg, c1, c2⟩ := (HV.out.keep hb).at i hlt
      have hat : allI f e (l.take (i + 1)) = if inR f e (l.getD i ([], [])).1 then X ++ [l.getD i ([], [])] else X := by
        rw [takeI l i hlt, HA.out]
        unfold allI
        rw [List.filter_append]
        by_cases h : inR f e (l.getD i ([], [])).1 = true
        · rw [if_pos h, List.filter_cons, if_pos h]; rfl
        · rw [if_neg h, List.filter_cons, if_neg h]; simp
      have HAT := Lib.hid hat
      clear hat
      generalize l.getD i ([], []) = x at *
      obtain ⟨xk, xv⟩ := x
      simp only at c1 c2
      subst e1
      cases hin : inR f e xk
      · have hr := fun W => rin_any xk f e W
        rw [hin] at hr
        have HR := Lib.hid hr
        have HA' : Hid (X = allI f e (l.take (i + 1))) := Lib.hid (by rw [HAT.out]; simp [hin])
        clear hr hin hlt
        go_wp2_with fail
        refine (HR.out _).mono ?_
        rintro e2 w2 ⟨rfl, rfl⟩
        go_wp2_with fail
        exact ⟨⟨i + 1, X, by go_num, by omega, HX, HA', Lib.hid (by have := HXL.out; omega), hb⟩, by simp [intOf]; omega⟩
      · have hr := fun W => rin_any xk f e W
        rw [hin] at hr
        have HR := Lib.hid hr
        have HA' : Hid (X ++ [(xk, xv)] = allI f e (l.take (i + 1))) := Lib.hid (by rw [HAT.out]; simp [hin])
        clear hr hin hlt
        go_wp2_with fail
        refine (HR.out _).mono ?_
        rintro e2 w2 ⟨rfl, rfl⟩
        go_wp2_with (first
          | (at_builtin; refine wpList_appI rfl (.tmp 23) (.tmp 28) rfl w.heap.size _ X rfl (HX.out.keep (Below.allocS (Below.refl _ _) _)) _ 0 1 1 [(xk, xv)] rfl rfl (isrc1 _ xk xv 44) (by have := HXL.out; omega) (by have := hb.size; simp; omega) ?_; intro v5 w5 hr5 hb5)
          | fail)
        exact ⟨⟨i + 1, X ++ [(xk, xv)], by go_num, by omega, Lib.hid hr5, HA', Lib.hid (by have := HXL.out; simp; omega), (Below.allocS hb _).trans hb5⟩, by simp [intOf]; omega⟩
    · have e1 : i = l.length := by omega
      subst e1
      have i1 : decide ((l.length : Int) < (l.length : Int)) = false := by simp
      have HA' : Hid (X = allI f e l) := Lib.hid (by rw [HA.out, List.take_length])
      go_wp2_with fail
      go_ret
      exact ⟨_, rfl, by rw [← HA'.out]; exact HX.out, hb⟩

set_option maxRecDepth 100000 in
set_option maxHeartbeats 2000000 in
theorem rrange_no (v : Value) (f e : Bs) (mo : Int) (h : mo < 1 ∨ 16 < mo) (w : World) :
    Calls Tryd.prog 14 #[v, .string ⟨List.toArray (f)⟩, .string ⟨List.toArray (e)⟩, .int .i64 (mo)] w fun e' w' => e' = .returned (.tuple #[.slice none 0 0, .string ⟨List.toArray ([])⟩, .int .i64 (1)]) ∧ w = w' := by
  by_cases h1 : mo < 1
  · have d1 : decide (mo < 1) = true := by simpa using h1
    clear h h1
    go_enter Tryd.func14, Tryd.ntmps14
    go_wp2_with fail
    go_ret3
    exact ⟨rfl, rfl⟩
  · have d1 : decide (mo < 1) = false := by simpa using h1
    have d2 : decide (16 < mo) = true := by simp; omega
    clear h h1
    go_enter Tryd.func14, Tryd.ntmps14
    go_wp2_with fail
    go_ret3
    exact ⟨rfl, rfl⟩

set_option maxRecDepth 100000 in
set_option maxHeartbeats 2000000 in
theorem rrange_yes (v : Value) (l : List It) (hl : l.length ≤ 1000) (f e : Bs) (mo : Nat) (h1 : 1 ≤ mo) (h2 : mo ≤ 16) (w : World) (hv : IL w v l) :
    Calls Tryd.prog 14 #[v, .string ⟨List.toArray (f)⟩, .string ⟨List.toArray (e)⟩, .int .i64 (mo)] w fun e' w' => ∃ v', e' = .returned (.tuple #[v', .string ⟨List.toArray (nextP (allI f e l) mo)⟩, .int .i64 (0)]) ∧ IL w' v' ((allI f e l).take mo) ∧ Below w.heap.size w w' := by
  have HA := Lib.hid (rall_any v l (by omega) f e w hv)
  have hal : (allI f e l).length ≤ 1000 := by unfold allI; have := List.length_filter_le (fun x : It => inR f e x.1) l; omega
  have d1 : decide ((mo : Int) < 1) = false := by simp only [decide_eq_false_iff_not]; omega
  have d2 : decide ((16 : Int) < (mo : Int)) = false := by simp only [decide_eq_false_iff_not]; omega
  obtain ⟨va, vc, rfl⟩ := hv.form
  generalize hnx : nextP (allI f e l) mo = nx
  have HNX := Lib.hid hnx
  clear hv hnx
  generalize allI f e l = A at *
  by_cases h : A.length ≤ mo
  · have d3 : decide ((A.length : Int) ≤ (mo : Int)) = true := by simp only [decide_eq_true_eq]; omega
    have d4 : decide (A.length ≤ mo) = true := by simpa using h
    have HE : Hid (nx = []) := Lib.hid (by rw [← HNX.out]; exact if_pos h)
    have HT : Hid (A.take mo = A) := Lib.hid (List.take_of_length_le h)
    clear h
    go_enter Tryd.func14, Tryd.ntmps14
    go_wp2_with fail
    refine HA.out.mono ?_
    rintro e1 w1 ⟨v1, rfl, hr1, hb1⟩
    obtain ⟨va1, vc1, rfl⟩ := hr1.form
    have HI := Lib.hid hr1.il
    clear hr1
    go_wp2_with fail
    go_ret3
    exact ⟨_, by rw [HE.out]; rfl, by rw [HT.out]; exact HI.out, hb1⟩
  · have d3 : decide ((A.length : Int) ≤ (mo : Int)) = false := by simp only [decide_eq_false_iff_not]; omega
    have d4 : decide (A.length ≤ mo) = false := by simpa using h
    have HE : Hid (nx = behP (A.getD (mo - 1) ([], [])).1) := Lib.hid (by rw [← HNX.out]; exact if_neg h)
    have hmA : mo ≤ A.length := by omega
    have hw1 : IntKind.i64.wrap ((mo : Int) - 1) = (mo : Int) - 1 := by rw [IntKind.wrap_i64]; omega
    have hmn : ((mo : Int) - 1).toNat = mo - 1 := by omega
    have hm01 : (1 : Int) ≤ (mo : Int) := by omega
    have hm02 : (mo : Int) - 1 < (A.length : Int) := by omega
    clear h
    go_enter Tryd.func14, Tryd.ntmps14
    go_wp2_with fail
    refine HA.out.mono ?_
    rintro e1 w1 ⟨v1, rfl, hr1, hb1⟩
    obtain ⟨va1, vc1, rfl⟩ := hr1.form
    have hil := hr1.il
    obtain ⟨g, off, e2, hg, c1, _⟩ := hil.at (mo - 1) (by omega)
    subst e2
    have hup := hil.upto mo hmA
    obtain ⟨a3, cap, e3, cc1, cc2, hx3⟩ := id hil
    injection e3 with e4 _ e3
    subst e4 e3
    clear hx3
    have hcv : (mo : Int) ≤ (vc1 : Int) := by omega
    have HUP := Lib.hid hup
    have hbh := fun W => sbehind_any (A.getD (mo - 1) ([], [])).1 W
    clear hup hil hr1 cc2
    generalize A.getD (mo - 1) ([], []) = y at *
    obtain ⟨yk, yv⟩ := y
    simp only at c1 hbh HE
    have HBH := Lib.hid (fun W => rbehind_any yk W)
    clear hbh
    go_wp2_with fail
    refine wpH_start (by kernel_rfl) (fun hS => ?_)
    (refine wpH_pure 0 ?_ (oi := { dst := some 27, op := Op.move (Operand.tmp 11), type := 25, pos := "ref.go:55", after := #[], guard := none }) rfl (by kernel_rfl) (by kernel_rfl) (by kernel_rfl) (by rfl) hS (fun _ _ _ h => h) ?_ ?_; rotate_left; focus (intro w; go_simp; try with_reducible rfl))
    try simp only [Act.put, List.setIfInBounds_toArray, List.set_cons_zero, List.set_cons_succ]
    (refine wpH_pure 1 ?_ (oi := { dst := some 28, op := Op.move (Operand.tmp 3), type := 3, pos := "ref.go:55", after := #[], guard := none }) rfl (by kernel_rfl) (by kernel_rfl) (by kernel_rfl) (by rfl) hS (fun _ _ _ h => h) ?_ ?_; rotate_left; focus (intro w; go_simp; try with_reducible rfl))
    try simp only [Act.put, List.setIfInBounds_toArray, List.set_cons_zero, List.set_cons_succ]
    (refine wpH_pure 2 ?_ (oi := { dst := some 29, op := Op.slice 25 (Operand.tmp 27) none (some (Operand.tmp 28)) none, type := 25, pos := "ref.go:55", after := #[{ on := 0, ground := Ground.data }, { on := 1, ground := Ground.data }], guard := none }) rfl (by kernel_rfl) (by kernel_rfl) (by kernel_rfl) (by rfl) hS (fun _ _ _ h => h) ?_ ?_; rotate_left; focus (intro w; go_simp; try with_reducible rfl))
    try simp only [Act.put, List.setIfInBounds_toArray, List.set_cons_zero, List.set_cons_succ]
    (refine wpH_pure 3 ?_ (oi := { dst := some 30, op := Op.move (Operand.tmp 11), type := 25, pos := "ref.go:55", after := #[], guard := none }) rfl (by kernel_rfl) (by kernel_rfl) (by kernel_rfl) (by rfl) hS (fun _ _ _ h => h) ?_ ?_; rotate_left; focus (intro w; go_simp; try with_reducible rfl))
    try simp only [Act.put, List.setIfInBounds_toArray, List.set_cons_zero, List.set_cons_succ]
    (refine wpH_pure 4 ?_ (oi := { dst := some 31, op := Op.move (Operand.tmp 3), type := 3, pos := "ref.go:55", after := #[], guard := none }) rfl (by kernel_rfl) (by kernel_rfl) (by kernel_rfl) (by rfl) hS (fun _ _ _ h => h) ?_ ?_; rotate_left; focus (intro w; go_simp; try with_reducible rfl))
    try simp only [Act.put, List.setIfInBounds_toArray, List.set_cons_zero, List.set_cons_succ]
    (refine wpH_pure 5 ?_ (oi := { dst := some 32, op := Op.binOp BinOp.sub 3 (Operand.tmp 31) (Operand.const (Value.int IntKind.i64 1)) 3, type := 3, pos := "ref.go:55", after := #[{ on := 4, ground := Ground.data }], guard := none }) rfl (by kernel_rfl) (by kernel_rfl) (by kernel_rfl) (by rfl) hS (fun _ _ _ h => h) ?_ ?_; rotate_left; focus (intro w; go_simp; try with_reducible rfl))
    try simp only [Act.put, List.setIfInBounds_toArray, List.set_cons_zero, List.set_cons_succ]
    (refine wpH_pure 6 ?_ (oi := { dst := some 33, op := Op.indexAddr 25 (Operand.tmp 30) (Operand.tmp 32), type := 0, pos := "ref.go:55", after := #[{ on := 3, ground := Ground.data }, { on := 5, ground := Ground.data }], guard := none }) rfl (by kernel_rfl) (by kernel_rfl) (by kernel_rfl) (by rfl) hS (fun _ _ _ h => h) ?_ ?_; rotate_left; focus (intro w; go_simp; try with_reducible rfl))
    try simp only [Act.put, List.setIfInBounds_toArray, List.set_cons_zero, List.set_cons_succ]
    (refine wpH_pure 7 ?_ (oi := { dst := some 34, op := Op.fieldAddr 44 (Operand.tmp 33) 0, type := 0, pos := "ref.go:55", after := #[{ on := 6, ground := Ground.data }], guard := none }) rfl (by kernel_rfl) (by kernel_rfl) (by kernel_rfl) (by rfl) hS (fun _ _ _ h => h) ?_ ?_; rotate_left; focus (intro w; go_simp; try with_reducible rfl))
    try simp only [Act.put, List.setIfInBounds_toArray, List.set_cons_zero, List.set_cons_succ]
    refine wpH_load 8 (.string ⟨List.toArray (yk)⟩) (oi := { dst := some 35, op := Op.load 9 (Operand.tmp 34), type := 9, pos := "ref.go:55", after := #[{ on := 7, ground := Ground.data }], guard := none }) rfl (by kernel_rfl) (by kernel_rfl) (by kernel_rfl) (by rfl) hS (fun _ _ _ h => h) (fun w hb => (by have q := keepC hb c1; go_simp; try rfl)) ?_
    try simp only [Act.put, List.setIfInBounds_toArray, List.set_cons_zero, List.set_cons_succ]
    refine wpH_call 9 (oi := { dst := some 36, op := Op.call { callee := Callee.value (Operand.func 12), args := #[Operand.tmp 35], argTypes := #[9] }, type := 9, pos := "ref.go:55", after := #[{ on := 8, ground := Ground.data }], guard := none }) rfl (by kernel_rfl) (by rfl) (HBH.out _) ?_ ?_
    · (go_simp; try rfl)
    rintro e w' ⟨rfl, hbx⟩
    refine ⟨_, rfl, hS.trans (hbx.mono hS.size), ?_⟩
    replace hS := hS.trans (hbx.mono hS.size)
    try simp only [Act.put, List.setIfInBounds_toArray, List.set_cons_zero, List.set_cons_succ]
    (refine wpH_pure 10 ?_ (oi := { dst := some 8, op := Op.assign (Operand.tmp 29), type := 25, pos := "ref.go:55", after := #[{ on := 2, ground := Ground.data }, { on := 9, ground := Ground.chain }, { on := 0, ground := Ground.phase }, { on := 1, ground := Ground.phase }, { on := 2, ground := Ground.phase }, { on := 3, ground := Ground.textOnly Departure.lateStores }, { on := 4, ground := Ground.textOnly Departure.lateStores }, { on := 5, ground := Ground.textOnly Departure.lateStores }, { on := 6, ground := Ground.textOnly Departure.lateStores }, { on := 7, ground := Ground.textOnly Departure.lateStores }, { on := 8, ground := Ground.textOnly Departure.lateStores }, { on := 9, ground := Ground.textOnly Departure.lateStoresUnsure }], guard := none }) rfl (by kernel_rfl) (by kernel_rfl) (by kernel_rfl) (by rfl) hS (fun _ _ _ h => h) ?_ ?_; rotate_left; focus (intro w; go_simp; try with_reducible rfl))
    try simp only [Act.put, List.setIfInBounds_toArray, List.set_cons_zero, List.set_cons_succ]
    (refine wpH_pure 11 ?_ (oi := { dst := some 9, op := Op.assign (Operand.tmp 36), type := 9, pos := "ref.go:55", after := #[{ on := 9, ground := Ground.data }, { on := 10, ground := Ground.chain }, { on := 0, ground := Ground.phase }, { on := 1, ground := Ground.phase }, { on := 2, ground := Ground.phase }, { on := 3, ground := Ground.phase }, { on := 4, ground := Ground.phase }, { on := 5, ground := Ground.phase }, { on := 6, ground := Ground.phase }, { on := 7, ground := Ground.phase }, { on := 8, ground := Ground.phase }, { on := 9, ground := Ground.phase }, { on := 10, ground := Ground.phase }], guard := none }) rfl (by kernel_rfl) (by kernel_rfl) (by kernel_rfl) (by rfl) hS (fun _ _ _ h => h) ?_ ?_; rotate_left; focus (intro w; go_simp; try with_reducible rfl))
    try simp only [Act.put, List.setIfInBounds_toArray, List.set_cons_zero, List.set_cons_succ]
    (refine wpH_pure 12 ?_ (oi := { dst := some 10, op := Op.assign (Operand.const (Value.int IntKind.i64 0)), type := 27, pos := "ref.go:55", after := #[{ on := 11, ground := Ground.chain }, { on := 0, ground := Ground.phase }, { on := 1, ground := Ground.phase }, { on := 2, ground := Ground.phase }, { on := 3, ground := Ground.phase }, { on := 4, ground := Ground.phase }, { on := 5, ground := Ground.phase }, { on := 6, ground := Ground.phase }, { on := 7, ground := Ground.phase }, { on := 8, ground := Ground.phase }, { on := 9, ground := Ground.phase }, { on := 10, ground := Ground.phase }, { on := 11, ground := Ground.phase }], guard := none }) rfl (by kernel_rfl) (by kernel_rfl) (by kernel_rfl) (by rfl) hS (fun _ _ _ h => h) ?_ ?_; rotate_left; focus (intro w; go_simp; try with_reducible rfl))
    try simp only [Act.put, List.setIfInBounds_toArray, List.set_cons_zero, List.set_cons_succ]
    refine wpAnyH_done (by kernel_rfl) ?_ _
    go_wp2_with fail
    go_ret3
    exact ⟨_, by rw [HE.out]; rfl, HUP.out.keep hS, hb1.trans (hS.mono hb1.size)⟩
end Go.Proofs.YtdaihimdkgmboaaDoor
