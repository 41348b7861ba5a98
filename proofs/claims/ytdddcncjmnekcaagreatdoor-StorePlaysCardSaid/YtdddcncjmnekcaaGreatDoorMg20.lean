/- Ref9, Ref1. -/
import Derived.Test.YtdddcncjmnekcaaGreatDoorMg8
import Derived.Test.YtdddcncjmnekcaaGreatDoorMg13
import Derived.Test.YtdddcncjmnekcaaGreatDoorMg17
import Derived.Test.YtdddcncjmnekcaaGreatDoorMg19
set_option linter.unnecessarySimpa false

/- Walks of the document's answer for layer 9: a list of noted texts, by their sums. -/
set_option linter.unusedSimpArgs false
set_option linter.unusedVariables false
namespace Go.Proofs.YtdddcncjmnekcaaGreatDoor
open Go.RowKit Pl

def At9Out (l : List It) (k : Bs) (w : World) (e : Ending) (w' : World) : Prop := e = .returned (.tuple #[.int .i64 ((atI k l : Nat)), .bool (hereI k l)]) ∧ ∃ n, w' = w.drewN n
set_option maxRecDepth 100000 in
set_option maxHeartbeats 2000000 in
theorem dat_any (v : Value) (l : List It) (k : Bs) (w : World) (hv : NL w v l) :
    Calls Tryz.prog 24 #[v, .string ⟨List.toArray (k)⟩] w (At9Out l k w) := by
  obtain ⟨va, vc, rfl⟩ := hv.form
  have hls := hv.small
  have HV := Lib.hid hv
  clear hv
  go_enter Tryz.func24, Tryz.ntmps24
  go_wp2_with fail
  go_loopw [6] (fun s6 wr => ∃ i : Nat, s6 = .int .i64 (i) ∧ i ≤ l.length ∧ Hid (∀ j, j < i → (l.getD j ([], [])).1 < k) ∧ wr = w) (fun s6 _ => l.length - (intOf s6).toNat)
  case atStart => exact ⟨0, rfl, Nat.zero_le _, Lib.hid (fun j hj => absurd hj (by omega)), rfl⟩
  case round =>
    obtain ⟨i, rfl, hi, HJ, rfl⟩ := hrel
    by_cases hlt : i < l.length
    · have i1 : decide ((i : Int) < (l.length : Int)) = true := by simp; omega
      have i0 : 0 ≤ (i : Int) ∧ (i : Int) < (l.length : Int) := by omega
      have i2 : (i : Int) < (l.length : Int) := by omega
      obtain ⟨g, off, e1, hg, _, _, c1⟩ := HV.out.at i hlt
      subst e1
      have HNX := Lib.hid (fun (h : (l.getD i ([], [])).1 < k) j (hj : j < i + 1) => show (l.getD j ([], [])).1 < k from by
        rcases Nat.lt_or_ge j i with h1 | h1
        · exact HJ.out j h1
        · have : j = i := by omega
          subst this; exact h)
      have HEQ := Lib.hid (fun (h : ¬ (l.getD i ([], [])).1 < k) => atI_eq k l i (by omega) HJ.out (fun _ => h))
      have HHR := Lib.hid (hereI_at k l)
      have HLT := Lib.hid hlt
      clear hlt
      generalize hx : (l.getD i ([], [])).1 = xk at *
      have HX := Lib.hid hx
      clear hx
      by_cases h : xk < k
      · have k1 : decide (xk < k) = true := by simpa using h
        have HN := Lib.hid (HNX.out h)
        clear h HNX HEQ
        go_wp2_with fail
        exact ⟨⟨i + 1, by go_num, by have := HLT.out; omega, HN, trivial⟩, by have := HLT.out; simp [intOf]; omega⟩
      · have k1 : decide (xk < k) = false := by simpa using h
        have HE := Lib.hid (HEQ.out h)
        clear h HNX HEQ
        by_cases h2 : xk = k
        · subst h2
          have HH : Hid (hereI xk l = true) := Lib.hid (by rw [HHR.out, HE.out, HX.out]; simp [HLT.out])
          go_wp2_with fail
          go_quiet (fail)
          go_wp2_with fail
          go_ret2
          exact ⟨by rw [HE.out, HH.out]; rfl, _, rfl⟩
        · have e2 : (xk == k) = false := by simpa using h2
          have e3 : decide (xk = k) = false := by simpa using h2
          have HH : Hid (hereI k l = false) := Lib.hid (by rw [HHR.out, HE.out, HX.out]; simp [e2])
          clear h2
          go_wp2_with fail
          go_quiet (fail)
          go_wp2_with fail
          go_ret2
          exact ⟨by rw [HE.out, HH.out]; rfl, _, rfl⟩
    · have e : i = l.length := by omega
      have HE : Hid (atI k l = l.length) := Lib.hid (by subst e; exact atI_eq k l _ (Nat.le_refl _) HJ.out (fun h => absurd h (Nat.lt_irrefl _)))
      have HH : Hid (hereI k l = false) := Lib.hid (by rw [hereI_at, HE.out]; simp)
      have i1 : decide ((i : Int) < (l.length : Int)) = false := by simp; omega
      clear hlt
      go_wp2_with fail
      go_ret2
      exact ⟨by rw [HE.out, HH.out]; rfl, 0, rfl⟩
/-- A list from a place on, at the address that a slice expression gives. -/
theorem nl_drop {w : World} {g cap : Nat} {l : List (Bs × Bs)} (h : NL w (.slice (some ⟨g, 0, none⟩) l.length cap) l) (k : Nat) (hk : k ≤ l.length) : NL w (.slice (some ⟨g, k * 3, none⟩) (l.length - k) (cap - k)) (l.drop k) := by
  obtain ⟨a', cap', h1, h2, h3, h5⟩ := h
  injection h1 with e1 _ e3
  subst e1 e3
  have hl : (l.drop k).length = l.length - k := List.length_drop
  refine ⟨_, cap - k, by rw [hl], by omega, by omega, fun hn => ?_⟩
  obtain ⟨g', off, e, hg, hc⟩ := h5 (by intro e; rw [e] at hn; simp at hn)
  injection e with e
  injection e with e1 e2 _
  subst e1 e2
  refine ⟨g, k * 3, rfl, hg, fun i hi => ?_⟩
  rw [getD_dropN]
  have := hc (k + i) (by omega)
  rw [Nat.zero_add] at this
  rw [show k * 3 + i * 3 = (k + i) * 3 from by omega]
  exact this
theorem nl_end2 {w : World} (a : Option Addr) (n c : Nat) (hn : n = 0) (h : c ≤ maxLen) (l : List (Bs × Bs)) (hl : l = []) : NL w (.slice a n c) l := by
  subst hn hl
  exact ⟨a, c, rfl, Nat.zero_le _, h, fun h => absurd rfl h⟩
theorem nl_end {w : World} (a : Option Addr) (c : Nat) (h : c ≤ maxLen) : NL w (.slice a 0 c) [] := ⟨a, c, rfl, Nat.zero_le _, h, fun h => absurd rfl h⟩

/-- Put, of a sum that is there. -/
theorem dput_there (val : Value) (l : List (Bs × Bs)) (t : Bs) (ht : t.length ≤ 1000) (hh : hereI (tagP 1 t) l = true) (w : World) (hv : NL w val l) :
    Calls Tryz.prog 13 #[val, .string ⟨List.toArray (t)⟩] w fun e w' => e = .returned (.tuple #[val, .string ⟨List.toArray (tagP 1 t)⟩]) ∧ Below w.heap.size w w' := by
  have HT := Lib.hid (fun W => tagged_any 1 (by omega) t (by omega) W)
  have HA := Lib.hid (fun W (hb : Below w.heap.size w W) => dat_any val l (tagP 1 t) W (hv.keep hb))
  unfold At9Out at HA
  rw [hh] at HA
  clear hv hh
  generalize tagP 1 t = k at *
  go_enter Tryz.func13, Tryz.ntmps13
  go_wp2_with fail
  refine (HT.out _).mono ?_
  rintro e w1 ⟨rfl, hb1⟩
  go_wp2_with fail
  refine (HA.out _ hb1).mono ?_
  rintro e w2 ⟨rfl, n2, rfl⟩
  go_wp2_with fail
  go_ret2
  exact ⟨rfl, below_drewN hb1 _⟩

def DPut (B : Nat) (w : World) (l : List (Bs × Bs)) (k : Bs) (e : Ending) (w' : World) : Prop := ∃ v, e = .returned (.tuple #[v, .string ⟨List.toArray (k)⟩]) ∧ NRow w' B v l ∧ Below B w w'
set_option maxRecDepth 100000 in
set_option maxHeartbeats 4000000 in
theorem dput_new (base : Nat) (val : Value) (l : List (Bs × Bs)) (t : Bs) (ht : t.length ≤ 1000) (hh : hereI (tagP 1 t) l = false) (hll : l.length ≤ 1000000) (w : World) (hv : NRow w base val l) :
    Calls Tryz.prog 13 #[val, .string ⟨List.toArray (t)⟩] w (DPut w.heap.size w (insI (tagP 1 t) t l) (tagP 1 t)) := by
  have HT := Lib.hid (fun W => tagged_any 1 (by omega) t (by omega) W)
  have HA := Lib.hid (fun W (hb : Below w.heap.size w W) => dat_any val l (tagP 1 t) W (hv.nl.keep hb))
  have hins := insI_at (tagP 1 t) t l
  have hal := atI_le (tagP 1 t) l
  unfold At9Out at HA
  rw [hh] at HA hins
  simp only [Bool.false_eq_true, if_false] at hins
  clear hh
  generalize insI (tagP 1 t) t l = out at *
  generalize atI (tagP 1 t) l = a at *
  generalize tagP 1 t = k at *
  have HINS := Lib.hid hins
  rcases hv.cells with ⟨rfl, rfl⟩ | ⟨g, cap, rfl, hbg, hg, hn, hm, hc, hf⟩
  · have ha0 : a = 0 := by simpa using hal
    subst ha0
    clear hv hal hins hll
    go_enter Tryz.func13, Tryz.ntmps13
    go_wp2_with fail
    refine (HT.out _).mono ?_
    rintro e w1 ⟨rfl, hb1⟩
    go_wp2_with fail
    refine (HA.out _ hb1).mono ?_
    rintro e w2 ⟨rfl, n2, rfl⟩
    have hb2 := below_drewN hb1 n2
    go_wp2_with (first
      | (at_builtin; refine wpList_appNN rfl (.tmp 21) (.tmp 24) rfl w.heap.size (.slice none 0 0) [] rfl (NRow.nil _ _) _ [] rfl (nl_end none 0 (by unfold maxLen; omega)) (by simp) (by have := hb2.size; omega) ?_; intro v5 w5 hr5 hb5)
      | (at_builtin; refine wpList_appN rfl (.tmp 26) (.tmp 30) rfl w.heap.size v5 [] rfl (hr5.keep (Below.allocS (Below.refl _ _) _)) w5.heap.size 0 1 1 [(k, t)] rfl rfl (nsrc1 _ k t 48) (by simp) (by have := hb2.size; have := hb5.size; simp at *; omega) ?_; intro v6 w6 hr6 hb6)
      | (at_builtin; refine wpList_appNN rfl (.tmp 32) (.tmp 35) rfl w.heap.size v6 _ rfl hr6 _ [] rfl (nl_end none 0 (by unfold maxLen; omega)) (by simp) (by have := hb2.size; have := hb5.size; have := hb6.size; simp at *; omega) ?_; intro v7 w7 hr7 hb7)
      | fail)
    go_ret2
    have hb05 : Below w.heap.size w w5 := hb2.trans hb5
    exact ⟨v7, rfl, by rw [HINS.out]; exact hr7, ((Below.allocS hb05 _).trans hb6).trans hb7⟩
  · have HNL := Lib.hid hv.nl
    have hac : (a : Int) ≤ (cap : Int) := by omega
    have hac' : a ≤ cap := by omega
    have hls : (l.length : Int) ≤ 1000000 := by omega
    unfold maxLen at hm
    have hal' : (a : Int) ≤ (l.length : Int) := by omega
    clear hv hins hc hf
    go_enter Tryz.func13, Tryz.ntmps13
    go_wp2_with fail
    refine (HT.out _).mono ?_
    rintro e w1 ⟨rfl, hb1⟩
    go_wp2_with fail
    refine (HA.out _ hb1).mono ?_
    rintro e w2 ⟨rfl, n2, rfl⟩
    have hb2 := below_drewN hb1 n2
    have hI2 := HNL.out.keep hb2
    have hU2 := hI2.upto a hal
    have hs2 := hb2.size
    have hta : (l.take a).length = a := by rw [List.length_take]; omega
    have ht6 : (l.take a ++ [(k, t)]).length = a + 1 := by simp [hal]
    by_cases hca : cap = a
    · subst hca
      have HD := Lib.hid (show l.drop cap = [] from List.drop_eq_nil_of_le hn)
      go_wp2_with (first
        | (at_builtin; refine wpList_appNN rfl (.tmp 21) (.tmp 24) rfl w.heap.size (.slice none 0 0) [] rfl (NRow.nil _ _) _ (l.take cap) rfl hU2 (by simp; omega) hs2 ?_; intro v5 w5 hr5 hb5; rw [List.nil_append] at hr5; obtain ⟨b5, c5, rfl⟩ := hr5.form; rw [hta] at hr5)
        | (at_builtin; refine wpList_appN rfl (.tmp 26) (.tmp 30) rfl w.heap.size _ (l.take cap) rfl (hr5.keep (Below.allocS (Below.refl _ _) _)) w5.heap.size 0 1 1 [(k, t)] rfl rfl (nsrc1 _ k t 48) (by simp; omega) (by have := hb5.size; simp at *; omega) ?_; intro v6 w6 hr6 hb6; obtain ⟨b6, c6, rfl⟩ := hr6.form; rw [ht6] at hr6)
        | (at_builtin; refine wpList_appNN rfl (.tmp 32) (.tmp 35) rfl w.heap.size _ _ rfl hr6 _ (l.drop cap) rfl (nl_end2 _ _ _ (by omega) (by unfold maxLen; omega) _ HD.out) (by simp; omega) (by have := hb5.size; have := hb6.size; simp at *; omega) ?_; intro v7 w7 hr7 hb7)
        | fail)
      go_ret2
      have hb05 : Below w.heap.size w w5 := hb2.trans hb5
      refine ⟨v7, rfl, ?_, ((Below.allocS hb05 _).trans hb6).trans hb7⟩
      rw [HINS.out]
      simpa only [List.append_assoc, List.cons_append, List.nil_append] using hr7
    · go_wp2_with (first
        | (at_builtin; refine wpList_appNN rfl (.tmp 21) (.tmp 24) rfl w.heap.size (.slice none 0 0) [] rfl (NRow.nil _ _) _ (l.take a) rfl hU2 (by simp; omega) hs2 ?_; intro v5 w5 hr5 hb5; rw [List.nil_append] at hr5; obtain ⟨b5, c5, rfl⟩ := hr5.form; rw [hta] at hr5)
        | (at_builtin; refine wpList_appN rfl (.tmp 26) (.tmp 30) rfl w.heap.size _ (l.take a) rfl (hr5.keep (Below.allocS (Below.refl _ _) _)) w5.heap.size 0 1 1 [(k, t)] rfl rfl (nsrc1 _ k t 48) (by simp; omega) (by have := hb5.size; simp at *; omega) ?_; intro v6 w6 hr6 hb6; obtain ⟨b6, c6, rfl⟩ := hr6.form; rw [ht6] at hr6)
        | (at_builtin; refine wpList_appNN rfl (.tmp 32) (.tmp 35) rfl w.heap.size _ _ rfl hr6 _ (l.drop a) rfl ((nl_drop (HNL.out.keep ((Below.allocS (hb2.trans hb5) _).trans hb6)) a hal)) (by simp; omega) (by have := hb5.size; have := hb6.size; simp at *; omega) ?_; intro v7 w7 hr7 hb7)
        | fail)
      go_ret2
      have hb05 : Below w.heap.size w w5 := hb2.trans hb5
      refine ⟨v7, rfl, ?_, ((Below.allocS hb05 _).trans hb6).trans hb7⟩
      rw [HINS.out]
      simpa only [List.append_assoc, List.cons_append, List.nil_append] using hr7

/-- Get. -/
def getD9 (l : List (Bs × Bs)) (k : Bs) : Bs := if hereI k l then (l.getD (atI k l) ([], [])).2 else []
theorem dget_any (val : Value) (l : List (Bs × Bs)) (k : Bs) (w : World) (hv : NL w val l) :
    Calls Tryz.prog 29 #[val, .string ⟨List.toArray (k)⟩] w fun e w' => e = .returned (.tuple #[.string ⟨List.toArray (getD9 l k)⟩, .bool (hereI k l)]) ∧ ∃ n, w' = w.drewN n := by
  have HA := Lib.hid (dat_any val l k w hv)
  have HV := Lib.hid hv
  have hat := hereI_at k l
  generalize hz : getD9 l k = z
  have hz' : z = if hereI k l then (l.getD (atI k l) ([], [])).2 else [] := hz.symm
  clear hz
  unfold At9Out at HA
  obtain ⟨va, vc, rfl⟩ := hv.form
  clear hv
  generalize atI k l = a at *
  cases hh : hereI k l
  · rw [hh] at HA hz'
    have HZ : Hid (z = []) := Lib.hid (by simpa using hz')
    clear hz' hat hh HV
    go_enter Tryz.func29, Tryz.ntmps29
    go_wp2_with fail
    refine HA.out.mono ?_
    rintro e w2 ⟨rfl, n2, rfl⟩
    go_wp2_with fail
    go_ret2
    exact ⟨by rw [HZ.out]; rfl, _, rfl⟩
  · rw [hh] at HA hz' hat
    simp at hat
    have hlt := hat.1
    have i0 : 0 ≤ (a : Int) ∧ (a : Int) < (l.length : Int) := by omega
    have hz2 : z = (l.getD a ([], [])).2 := by simpa using hz'
    obtain ⟨g, off, e1, hg, _, c1, _⟩ := HV.out.at a hlt
    subst e1
    rw [← hz2] at c1
    clear hz' hz2 hat hh
    have c2 : ∀ n, (w.drewN n).cell? ⟨g, off + a * 3 + 1, none⟩ = some (.string ⟨List.toArray (z)⟩) := fun n => ((below_drewN (Below.refl w.heap.size w) n).cell (p := ⟨g, off + a * 3 + 1, none⟩) hg).trans c1
    have i2 : (a : Int) < (l.length : Int) := i0.2
    go_enter Tryz.func29, Tryz.ntmps29
    go_wp2_with fail
    refine HA.out.mono ?_
    rintro e w2 ⟨rfl, n2, rfl⟩
    have c3 := c2 n2
    clear c2 c1
    go_wp2_with fail
    go_ret2
    exact ⟨rfl, _, rfl⟩

set_option maxRecDepth 100000 in
set_option maxHeartbeats 2000000 in
theorem dsums_any (val : Value) (l : List (Bs × Bs)) (hl : l.length ≤ 1000000) (w : World) (hv : NL w val l) :
    Calls Tryz.prog 26 #[val] w fun e w' => ∃ v, e = .returned v ∧ SRow w' w.heap.size v (l.map (·.1)) ∧ Below w.heap.size w w' := by
  obtain ⟨va, vc, rfl⟩ := hv.form
  have HV := Lib.hid hv
  clear hv
  go_enter Tryz.func26, Tryz.ntmps26
  go_wp2_with fail
  go_loopw [3, 4] (fun s3 s4 wr => ∃ (i : Nat) (X : List Bs), s4 = .int .i64 (i) ∧ i ≤ l.length ∧ Hid (SRow wr w.heap.size s3 X) ∧ Hid (X = (l.take i).map (·.1)) ∧ Hid (X.length = i) ∧ Below w.heap.size w wr) (fun _ s4 _ => l.length - (intOf s4).toNat)
  case atStart => exact ⟨0, [], rfl, Nat.zero_le _, Lib.hid (SRow.nil _ _), Lib.hid (by simp), Lib.hid rfl, Below.refl _ _⟩
  case round =>
    obtain ⟨i, X, rfl, hi, HX, HE, HL, hb⟩ := hrel
    obtain ⟨xa, xc, rfl⟩ := HX.out.form
    by_cases hlt : i < l.length
    · have i1 : decide ((i : Int) < (l.length : Int)) = true := by simp; omega
      have i0 : 0 ≤ (i : Int) ∧ (i : Int) < (l.length : Int) := by omega
      obtain ⟨g, off, e1, hg, c0, c00, c1⟩ := (HV.out.keep hb).at i hlt
      subst e1
      clear c0 c00
      have HTK : Hid (X ++ [(l.getD i ([], [])).1] = (l.take (i + 1)).map (·.1)) := Lib.hid (by rw [takeN l i hlt, List.map_append, ← HE.out]; rfl)
      generalize (l.getD i ([], [])).1 = x at *
      go_wp2_with (first
        | (at_builtin; refine wpList_appS rfl (.tmp 11) (.tmp 17) rfl w.heap.size _ X rfl (HX.out.keep (Below.allocS (Below.refl _ _) _)) wr.heap.size 0 1 1 [x] rfl rfl (ssrc1 _ _ _) (by have := HL.out; omega) (by have := hb.size; simp; omega) ?_; rintro v2 w2 hS2 hb2)
        | fail)
      exact ⟨⟨i + 1, X ++ [x], by go_num, by omega, Lib.hid hS2, HTK, Lib.hid (by rw [List.length_append, HL.out]; rfl), (Below.allocS hb _).trans hb2⟩, by simp [intOf]; omega⟩
    · have e : i = l.length := by omega
      have HF : Hid (X = l.map (·.1)) := Lib.hid (by rw [HE.out, e, List.take_length])
      have i2 : ¬ i < l.length := hlt
      clear e
      go_wp2_with fail
      go_ret
      exact ⟨_, rfl, by rw [← HF.out]; exact HX.out, hb⟩
end Go.Proofs.YtdddcncjmnekcaaGreatDoor

/- Walks of the document's answer for layer 1. -/
set_option linter.unusedSimpArgs false
set_option linter.unusedVariables false
namespace Go.Proofs.YtdddcncjmnekcaaGreatDoor
open Go.RowKit Pl

theorem rfit_any (s : Bs) (hs : s.length ≤ 9223372036854775807) (w : World) :
    Calls Tryz.prog 66 #[.string ⟨List.toArray (s)⟩] w fun e w' => e = .returned (.bool (fit s)) ∧ w = w' := by
  go_enter Tryz.func66, Tryz.ntmps66
  go_wp2_with fail
  go_loop [3] (fun s3 => ∃ i : Nat, i ≤ s.length ∧ s3 = .int .i64 i ∧ Hid (fit (s.take i) = true)) (fun s3 => s.length - (intOf s3).toNat)
  case atStart => exact ⟨0, by omega, rfl, Lib.hid (by simp [fit])⟩
  case round =>
    obtain ⟨i, hi, rfl, HF⟩ := hrel
    by_cases hlt : i < s.length
    · have hbi := s[i].toNat_lt
      by_cases h15 : 15 < s[i].toNat
      · have h15' : (15 : Int) < (s[i].toNat : Int) := by omega
        have HN := Lib.hid (fit_not s i hlt h15)
        go_wp2_with fail
        go_ret
        exact ⟨by rw [HN.out]; rfl, rfl⟩
      · have h15' : ¬ (15 : Int) < (s[i].toNat : Int) := by omega
        go_wp2_with fail
        exact ⟨⟨i + 1, by omega, by go_num, Lib.hid (by rw [fit_take s i hlt, HF.out]; simp; omega)⟩, by simp [intOf] <;> omega⟩
    · have hie : s.take i = s := List.take_of_length_le (by omega)
      have HN : Hid (fit s = true) := Lib.hid (by rw [← hie]; exact HF.out)
      clear hie
      go_wp2_with fail
      go_ret
      exact ⟨by rw [HN.out]; rfl, rfl⟩

set_option maxRecDepth 100000 in
set_option maxHeartbeats 1000000 in
theorem rof_any (s : Bs) (hs : s.length ≤ 35184372088832) (w : World) :
    Calls Tryz.prog 65 #[.string ⟨List.toArray (s)⟩] w fun e w' => e = .returned (.string ⟨List.toArray (ofP s)⟩) ∧ Below w.heap.size w w' := by
  go_enter Tryz.func65, Tryz.ntmps65
  go_wp2_with fail
  go_loopw [3, 4] (fun s3 s4 wr => ∃ i : Nat, i ≤ s.length ∧ s4 = .int .i64 i ∧ s3 = .string ⟨List.toArray (ofP (s.take i))⟩ ∧ Below w.heap.size w wr) (fun _ s4 _ => s.length - (intOf s4).toNat)
  case atStart => exact ⟨0, by omega, rfl, rfl, Below.refl _ _⟩
  case round =>
    obtain ⟨i, hi, rfl, rfl, hb⟩ := hrel
    rename_i wr
    by_cases hlt : i < s.length
    · have hbi := s[i].toNat_lt
      have hol := ofP_len (s.take i)
      have htl : (s.take i).length = i := by simp; omega
      rw [htl] at hol
      have hcat : ¬ 9223372036854775807 < (ofP (s.take i)).length + 2 := by omega
      have HOS := Lib.hid (show ofP (s.take (i + 1)) = ofP (s.take i) ++ [UInt8.ofNat (s[i].toNat / 16), UInt8.ofNat (s[i].toNat % 16)] from by
        rw [List.take_succ_eq_append_getElem hlt, ofP_snoc])
      clear hol htl
      go_wp2_with fail
      go_region
      all_goals go_wp2_with fail
      exact ⟨⟨i + 1, by omega, by go_num, by rw [HOS.out, u8_div16, u8_mod16], by (repeat (first | exact Below.refl _ _ | assumption | apply Below.drew | apply below_drewN | apply Below.allocS | (refine Below.setCell ?_ (by simp <;> omega) _) | (refine Below.alloc ?_ (by simp <;> omega) _) | (refine Below.trans ?_ (Below.mono (by assumption) (by simp <;> omega)))))⟩, by simp [intOf]; omega⟩
    · go_wp2_with fail
      go_ret
      refine ⟨?_, hb⟩
      rw [List.take_of_length_le (by omega)]; rfl

theorem rkey_bad (s : Bs) (hf : fit s = false) (hs : s.length ≤ 35184372088832) (w : World) :
    Calls Tryz.prog 86 #[.string ⟨List.toArray (s)⟩] w fun e w' => e = .returned (.tuple #[.string ⟨List.toArray ([])⟩, .int .i64 (3)]) ∧ Below w.heap.size w w' := by
  go_enter Tryz.func86, Tryz.ntmps86
  go_wp2_with fail
  refine (rfit_any s (by omega) _).mono ?_
  rintro e w1 ⟨rfl, rfl⟩
  rw [hf]
  go_wp2_with fail
  go_ret2
  exact ⟨rfl, Below.refl _ _⟩

set_option maxRecDepth 100000 in
set_option maxHeartbeats 1000000 in
theorem rkey_even (s : Bs) (hf : fit s = true) (hev : s.length % 2 = 0) (hs : s.length ≤ 35184372088832) (w : World) :
    Calls Tryz.prog 86 #[.string ⟨List.toArray (s)⟩] w fun e w' => e = .returned (.tuple #[.string ⟨List.toArray (joined s)⟩, .int .i64 (0)]) ∧ Below w.heap.size w w' := by
  have hodd : ((s.length : Int) % 2 != 0) = false := by simp; omega
  have HFit := Lib.hid hf
  have HEV := Lib.hid hev
  clear hf hev
  go_enter Tryz.func86, Tryz.ntmps86
  go_wp2_with fail
  refine (rfit_any s (by omega) _).mono ?_
  rintro e w1 ⟨rfl, rfl⟩
  rw [HFit.out]
  go_wp2_with fail
  go_loopw [4, 5] (fun s4 s5 wr => ∃ i : Nat, i ≤ s.length / 2 ∧ s5 = .int .i64 (2 * (i : Int)) ∧ s4 = .string ⟨List.toArray (joined (s.take (2 * i)))⟩ ∧ Below w.heap.size w wr) (fun _ s5 _ => s.length - (intOf s5).toNat)
  case atStart => exact ⟨0, by omega, rfl, rfl, Below.refl _ _⟩
  case round =>
    obtain ⟨i, hi, rfl, rfl, hb⟩ := hrel
    rename_i wr
    by_cases hlt : i < s.length / 2
    · have h2 : 2 * i + 1 < s.length := by omega
      have ha := fit_at s HFit.out (2 * i) (by omega)
      have hb' := fit_at s HFit.out (2 * i + 1) h2
      have HJ := Lib.hid (joined_at s i h2)
      have hL : (joined (s.take (2 * i))).length = i := by rw [joined_len]; simp; omega
      have hcat : ¬ 9223372036854775807 < (joined (s.take (2 * i))).length + 1 := by omega
      clear hL
      have hai : (s[2 * i].toNat : Int) ≤ 15 := by omega
      have hbi : (s[2 * i + 1].toNat : Int) ≤ 15 := by omega
      have q1 : (0 : Int) ≤ 2 * (i : Int) := by omega
      have q2 : 2 * (i : Int) < (s.length : Int) := by omega
      have q3 : (0 : Int) ≤ 2 * (i : Int) + 1 := by omega
      have q4 : 2 * (i : Int) + 1 < (s.length : Int) := by omega
      have q5 : (2 * (i : Int)).toNat = 2 * i := by omega
      have q6 : (2 * (i : Int) + 1).toNat = 2 * i + 1 := by omega
      have q8 : IntKind.i64.wrap (2 * (i : Int) + 1) = 2 * (i : Int) + 1 := IntWalk.i64_in _ (by omega)
      have q9 : IntKind.u8.wrap ((s[2 * i].toNat : Int) * 16) = (s[2 * i].toNat : Int) * 16 := by rw [IntKind.wrap_u8']; omega
      have q10 : IntKind.u8.wrap ((s[2 * i].toNat : Int) * 16 + (s[2 * i + 1].toNat : Int)) = (s[2 * i].toNat : Int) * 16 + (s[2 * i + 1].toNat : Int) := by rw [IntKind.wrap_u8']; omega
      have q11 : ((s[2 * i].toNat : Int) * 16 + (s[2 * i + 1].toNat : Int)).toNat = s[2 * i].toNat * 16 + s[2 * i + 1].toNat := by omega
      go_wp2_with fail
      go_region
      all_goals go_wp2_with fail
      refine ⟨⟨i + 1, by omega, by go_num, by rw [show 2 * (i + 1) = 2 * i + 2 from by omega, HJ.out]; simp, by (repeat (first | exact Below.refl _ _ | assumption | apply Below.drew | apply below_drewN | apply Below.allocS | (refine Below.setCell ?_ (by simp <;> omega) _) | (refine Below.alloc ?_ (by simp <;> omega) _) | (refine Below.trans ?_ (Below.mono (by assumption) (by simp <;> omega)))))⟩, by simp [intOf]; omega⟩
    · have hii : i = s.length / 2 := by omega
      have HJ : Hid (joined (s.take (2 * i)) = joined s) := Lib.hid (by rw [hii]; exact joined_all s)
      have hlt' : ¬ 2 * (i : Int) < (s.length : Int) := by have := HEV.out; omega
      clear hii
      rw [HJ.out]
      go_wp2_with fail
      go_ret2
      exact ⟨rfl, hb⟩

theorem fit_cons (c : UInt8) (s : Bs) : fit (c :: s) = (decide (c.toNat ≤ 15) && fit s) := by simp [fit]

set_option maxRecDepth 100000 in
set_option maxHeartbeats 1000000 in
theorem rpack_any (s : Bs) (leaf : Bool) (hs : s.length ≤ 35184372080000) (w : World) :
    Calls Tryz.prog 68 #[.string ⟨List.toArray (s)⟩, .bool leaf] w fun e w' => e = .returned (.tuple #[.string ⟨List.toArray ((pack s leaf).1)⟩, .int .i64 ((pack s leaf).2)]) ∧ Below w.heap.size w w' := by
  cases hf : fit s with
  | false =>
    rw [show pack s leaf = ([], 3) from by unfold pack; rw [if_pos hf]]
    go_enter Tryz.func68, Tryz.ntmps68
    go_wp2_with fail
    refine (rfit_any s (by omega) _).mono ?_
    rintro e w1 ⟨rfl, rfl⟩
    rw [hf]
    go_wp2_with fail
    go_ret2
    exact ⟨rfl, Below.refl _ _⟩
  | true =>
    have HF := Lib.hid hf
    clear hf
    have hc2 : ¬ 9223372036854775807 < 2 + s.length := by omega
    have hc1 : ¬ 9223372036854775807 < 1 + s.length := by omega
    by_cases ho : s.length % 2 = 1
    · obtain ⟨c, r, rfl⟩ : ∃ c r, s = c :: r := by
        cases s with
        | nil => simp at ho
        | cons c r => exact ⟨c, r, rfl⟩
      have hc15 : c.toNat ≤ 15 := fit_at _ HF.out 0 (by simp)
      have hev : ∀ k : UInt8, (k :: c :: r).length % 2 = 0 := by intro k; simp at ho ⊢; omega
      have hft : ∀ k : UInt8, k.toNat ≤ 15 → fit (k :: c :: r) = true := by intro k hk; rw [fit_cons, HF.out]; simp [hk]
      rw [show pack (c :: r) leaf = (UInt8.ofNat ((if leaf then 32 else 0) + 16 + c.toNat) :: joined r, 0) from by unfold pack; rw [if_neg (by rw [HF.out]; simp), if_pos ho]; rfl]
      have ho' : (((r.length : Int) + 1) % 2) = 1 := by simp at ho; omega
      have HO := Lib.hid ho
      clear ho
      cases leaf
      · have hres : joined ((1 : UInt8) :: c :: r) = UInt8.ofNat (0 + 16 + c.toNat) :: joined r := by
          simp only [joined]
          congr 1
        go_enter Tryz.func68, Tryz.ntmps68
        go_wp2_with fail
        refine (rfit_any (c :: r) (by simp at hs ⊢; omega) _).mono ?_
        rintro e w1 ⟨rfl, rfl⟩
        rw [HF.out]
        go_wp2_with fail
        refine (rkey_even (1 :: c :: r) (hft 1 (by decide)) (hev 1) (by simp at hs ⊢; omega) _).mono ?_
        rintro e w2 ⟨rfl, hb2⟩
        rw [hres]
        clear hres
        go_wp2_with fail
        go_ret2
        exact ⟨rfl, by (repeat (first | exact Below.refl _ _ | assumption | apply Below.drew | apply below_drewN | apply Below.allocS | (refine Below.setCell ?_ (by simp <;> omega) _) | (refine Below.alloc ?_ (by simp <;> omega) _) | (refine Below.trans ?_ (Below.mono (by assumption) (by simp <;> omega)))))⟩
      · have hres : joined ((3 : UInt8) :: c :: r) = UInt8.ofNat (32 + 16 + c.toNat) :: joined r := by
          simp only [joined]
          congr 1
        go_enter Tryz.func68, Tryz.ntmps68
        go_wp2_with fail
        refine (rfit_any (c :: r) (by simp at hs ⊢; omega) _).mono ?_
        rintro e w1 ⟨rfl, rfl⟩
        rw [HF.out]
        go_wp2_with fail
        refine (rkey_even (3 :: c :: r) (hft 3 (by decide)) (hev 3) (by simp at hs ⊢; omega) _).mono ?_
        rintro e w2 ⟨rfl, hb2⟩
        rw [hres]
        clear hres
        go_wp2_with fail
        go_ret2
        exact ⟨rfl, by (repeat (first | exact Below.refl _ _ | assumption | apply Below.drew | apply below_drewN | apply Below.allocS | (refine Below.setCell ?_ (by simp <;> omega) _) | (refine Below.alloc ?_ (by simp <;> omega) _) | (refine Below.trans ?_ (Below.mono (by assumption) (by simp <;> omega)))))⟩
    · have hev : ∀ k j : UInt8, (k :: j :: s).length % 2 = 0 := by intro k j; simp; omega
      have hft : ∀ k : UInt8, k.toNat ≤ 15 → fit (k :: 0 :: s) = true := by intro k hk; rw [fit_cons, fit_cons, HF.out]; simp [hk]
      rw [show pack s leaf = (UInt8.ofNat (if leaf then 32 else 0) :: joined s, 0) from by unfold pack; rw [if_neg (by rw [HF.out]; simp), if_neg ho]]
      have ho' : ((s.length : Int) % 2) = 0 := by omega
      have HO := Lib.hid ho
      clear ho
      cases leaf
      · have hres : joined ((0 : UInt8) :: 0 :: s) = UInt8.ofNat 0 :: joined s := by
          simp only [joined]
          congr 1
        go_enter Tryz.func68, Tryz.ntmps68
        go_wp2_with fail
        refine (rfit_any s (by omega) _).mono ?_
        rintro e w1 ⟨rfl, rfl⟩
        rw [HF.out]
        go_wp2_with fail
        refine (rkey_even (0 :: 0 :: s) (hft 0 (by decide)) (hev 0 0) (by simp; omega) _).mono ?_
        rintro e w2 ⟨rfl, hb2⟩
        rw [hres]
        clear hres
        go_wp2_with fail
        go_ret2
        exact ⟨rfl, by (repeat (first | exact Below.refl _ _ | assumption | apply Below.drew | apply below_drewN | apply Below.allocS | (refine Below.setCell ?_ (by simp <;> omega) _) | (refine Below.alloc ?_ (by simp <;> omega) _) | (refine Below.trans ?_ (Below.mono (by assumption) (by simp <;> omega)))))⟩
      · have hres : joined ((2 : UInt8) :: 0 :: s) = UInt8.ofNat 32 :: joined s := by
          simp only [joined]
          congr 1
        go_enter Tryz.func68, Tryz.ntmps68
        go_wp2_with fail
        refine (rfit_any s (by omega) _).mono ?_
        rintro e w1 ⟨rfl, rfl⟩
        rw [HF.out]
        go_wp2_with fail
        refine (rkey_even (2 :: 0 :: s) (hft 2 (by decide)) (hev 2 0) (by simp; omega) _).mono ?_
        rintro e w2 ⟨rfl, hb2⟩
        rw [hres]
        clear hres
        go_wp2_with fail
        go_ret2
        exact ⟨rfl, by (repeat (first | exact Below.refl _ _ | assumption | apply Below.drew | apply below_drewN | apply Below.allocS | (refine Below.setCell ?_ (by simp <;> omega) _) | (refine Below.alloc ?_ (by simp <;> omega) _) | (refine Below.trans ?_ (Below.mono (by assumption) (by simp <;> omega)))))⟩

end Go.Proofs.YtdddcncjmnekcaaGreatDoor
