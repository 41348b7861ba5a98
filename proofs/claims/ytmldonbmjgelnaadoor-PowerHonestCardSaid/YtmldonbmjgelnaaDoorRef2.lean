/- Walks of the document's answer for layer 2. -/
import Derived.Test.YtmldonbmjgelnaaDoorBytes
import Derived.Test.YtmldonbmjgelnaaDoorPlain
import Derived.Test.YtmldonbmjgelnaaDoorNum
set_option linter.unusedSimpArgs false
set_option linter.unusedVariables false
namespace Go.Proofs.YtmldonbmjgelnaaDoor
open Go.RowKit Pl

set_option maxHeartbeats 1000000 in
theorem rNumber_any (n : Nat) (hn : n < 9223372036854775808) (w : World) :
    Calls Tryd.prog 71 #[.int .i64 (n)] w fun e w' => e = .returned (.string ⟨List.toArray (num n)⟩) ∧ Below w.heap.size w w' := by
  go_enter Tryd.func71, Tryd.ntmps71
  go_wp2_with fail
  go_loopw [0, 3] (fun s0 s3 wr => ∃ (k m : Nat) (d : Bs), d.length + k = 8 ∧ m < 256 ^ k ∧ m < 9223372036854775808 ∧ Hid (digs 8 n = digs k m ++ d) ∧ s0 = .int .i64 m ∧ s3 = .string ⟨List.toArray (d)⟩ ∧ Below w.heap.size w wr)
    (fun s0 _ _ => (intOf s0).toNat)
  case atStart =>
    exact ⟨8, n, [], rfl, by omega, hn, Lib.hid (by simp), rfl, rfl, Below.refl _ _⟩
  case round =>
    obtain ⟨k, m, d, hd, hm, hm2, HD, rfl, rfl, hb⟩ := hrel
    have hcat : ¬ 9223372036854775807 < 1 + d.length := by omega
    by_cases h0 : 0 < m
    · obtain ⟨j, rfl⟩ : ∃ j, k = j + 1 := by
        rcases Nat.eq_zero_or_pos k with h | h
        · subst h; omega
        · exact ⟨k - 1, by omega⟩
      go_wp2_with fail
      refine ⟨⟨j, m / 256, UInt8.ofNat (m % 256) :: d, by simp at hd ⊢; omega, by rw [Nat.pow_succ] at hm; omega, by omega, ?_, by go_num, ?_, by (repeat (first | exact Below.refl _ _ | assumption | apply Below.drew | apply below_drewN | apply Below.allocS | (refine Below.setCell ?_ (by simp <;> omega) _) | (refine Below.alloc ?_ (by simp <;> omega) _) | (refine Below.trans ?_ (Below.mono (by assumption) (by simp <;> omega)))))⟩, by simp [intOf]; omega⟩
      · refine Lib.hid ?_
        rw [HD.out, digs_step _ _ h0, List.append_assoc]; rfl
      · refine str_eq ?_
        simp
    · have hm0 : m = 0 := by omega
      subst hm0
      have hfin : num n = UInt8.ofNat d.length :: d := by
        unfold num
        rw [HD.out, digs_zero, List.nil_append]
      have HF := Lib.hid hfin
      clear hfin
      have hdl : (d.length : Int) ≤ 8 := by omega
      go_wp2_with fail
      go_ret
      exact ⟨by rw [HF.out]; rfl, by (repeat (first | exact Below.refl _ _ | assumption | apply Below.drew | apply below_drewN | apply Below.allocS | (refine Below.setCell ?_ (by simp <;> omega) _) | (refine Below.alloc ?_ (by simp <;> omega) _) | (refine Below.trans ?_ (Below.mono (by assumption) (by simp <;> omega)))))⟩

theorem rText_any (s : Bs) (hs : s.length < 9223372036854775000) (w : World) :
    Calls Tryd.prog 72 #[.string ⟨List.toArray (s)⟩] w fun e w' => e = .returned (.string ⟨List.toArray (text s)⟩) ∧ Below w.heap.size w w' := by
  have hl := num_len s.length
  have hcat : ¬ 9223372036854775807 < (num s.length).length + s.length := by omega
  go_enter Tryd.func72, Tryd.ntmps72
  go_wp2_with fail
  refine (rNumber_any s.length (by omega) _).mono ?_
  rintro e w1 ⟨rfl, hb⟩
  go_wp2_with fail
  go_ret
  exact ⟨rfl, hb⟩

theorem rtake_nil (w : World) : Calls Tryd.prog 108 #[.string ⟨List.toArray ([])⟩] w fun e w' => e = .returned (.tuple #[.int .i64 (0), .string ⟨List.toArray ([])⟩, .int .i64 (20)]) ∧ ∃ n, w' = w.drewN n := by
  go_enter Tryd.func108, Tryd.ntmps108
  go_wp2_with fail
  go_ret3
  exact ⟨rfl, 0, rfl⟩

theorem take_cons' (k : UInt8) (r : Bs) : Pl.take (k :: r) = (if 8 < k.toNat then (0, [], 3)
    else if r.length < k.toNat then (0, [], 20)
    else if (0 < k.toNat ∧ r.headD 0 = 0) ∨ (k.toNat = 8 ∧ 127 < (r.headD 0).toNat) then (0, [], 3)
    else (be (r.take k.toNat), r.drop k.toNat, 0)) := rfl

set_option maxRecDepth 100000 in
set_option maxHeartbeats 1000000 in
theorem rtake_cons (k : UInt8) (r : Bs) (hl : r.length < 9223372036854775800) (w : World) :
    Calls Tryd.prog 108 #[.string ⟨List.toArray (k :: r)⟩] w fun e w' => e = .returned (.tuple #[.int .i64 ((Pl.take (k :: r)).1), .string ⟨List.toArray ((Pl.take (k :: r)).2.1)⟩, .int .i64 ((Pl.take (k :: r)).2.2)]) ∧ ∃ n, w' = w.drewN n := by
  have HC := Lib.hid (take_cons' k r)
  have hk := k.toNat_lt
  generalize hgn : k.toNat = kn at *
  by_cases h8 : 8 < kn
  · rw [show Pl.take (k :: r) = (0, [], 3) from by rw [HC.out, if_pos h8]]
    have h8' : (8 : Int) < (kn : Int) := by omega
    go_enter Tryd.func108, Tryd.ntmps108
    go_wp2_with fail
    go_ret3
    exact ⟨rfl, 0, rfl⟩
  have h8' : ¬ (8 : Int) < (kn : Int) := by omega
  by_cases hr : r.length < kn
  · rw [show Pl.take (k :: r) = (0, [], 20) from by rw [HC.out, if_neg h8, if_pos hr]]
    have hr' : (r.length : Int) + 1 < (kn : Int) + 1 := by omega
    go_enter Tryd.func108, Tryd.ntmps108
    go_wp2_with fail
    go_ret3
    exact ⟨rfl, 0, rfl⟩
  have hr' : ¬ (r.length : Int) < (kn : Int) := by omega
  by_cases h0 : kn = 0
  · rw [show Pl.take (k :: r) = (0, r, 0) from by rw [HC.out, if_neg h8, if_neg hr, if_neg (by omega), h0]; rfl]
    subst h0
    go_enter Tryd.func108, Tryd.ntmps108
    go_wp2_with fail
    go_loop [6, 7] (fun s6 s7 => s6 = .int .i64 0 ∧ s7 = .int .i64 1) (fun _ _ => 0)
    case atStart => exact ⟨rfl, rfl⟩
    case round =>
      obtain ⟨rfl, rfl⟩ := hrel
      go_wp2_with fail
      go_quiet (fail)
      go_wp2_with fail
      go_ret3
      exact ⟨rfl, _, rfl⟩
  obtain ⟨c, t, rfl⟩ : ∃ c t, r = c :: t := by
    cases r with
    | nil => simp at hr; omega
    | cons c t => exact ⟨c, t, rfl⟩
  have hcl := c.toNat_lt
  have hk0 : (0 : Int) < (kn : Int) := by omega
  have HG := Lib.hid hgn
  clear hgn
  by_cases hc0 : c = 0
  · rw [show Pl.take (k :: c :: t) = (0, [], 3) from by rw [HC.out, if_neg h8, if_neg hr, if_pos (.inl ⟨by omega, hc0⟩)]]
    have hc1 : ((c.toNat : Int) == 0) = true := by rw [hc0]; rfl
    have HK := Lib.hid hc0
    clear hc0
    have hgk := HG.out
    go_enter Tryd.func108, Tryd.ntmps108
    go_wp2_with fail
    go_ret3
    exact ⟨rfl, 0, rfl⟩
  have hc1 : ((c.toNat : Int) == 0) = false := by
    have : c.toNat ≠ 0 := fun h => hc0 (UInt8.toNat_inj.1 (by simpa using h))
    simp; omega
  by_cases h88 : kn = 8 ∧ 127 < c.toNat
  · rw [show Pl.take (k :: c :: t) = (0, [], 3) from by rw [HC.out, if_neg h8, if_neg hr, if_pos (.inr h88)]]
    have hk8 : ((kn : Int) == 8) = true := by simp; omega
    have hc2 : (127 : Int) < (c.toNat : Int) := by omega
    have hc3 : decide ((127 : Int) < (c.toNat : Int)) = true := by simpa using hc2
    have HK := Lib.hid h88
    clear h88
    have hgk := HG.out
    go_enter Tryd.func108, Tryd.ntmps108
    go_wp2_with fail
    go_ret3
    exact ⟨rfl, 0, rfl⟩
  have hbl : ((c :: t).take kn).length = kn := by rw [List.length_take]; omega
  have hbound := be_bound ((c :: t).take kn) (by omega) (fun h => by
    obtain ⟨j, rfl⟩ : ∃ j, kn = j + 1 := ⟨kn - 1, by omega⟩
    simp only [List.take_succ_cons, List.headD_cons]
    have := fun h' => h88 ⟨by omega, h'⟩
    omega)
  rw [hbl] at hbound
  have HBD := Lib.hid hbound
  clear hbound hbl
  rw [show Pl.take (k :: c :: t) = (be ((c :: t).take kn), (c :: t).drop kn, 0) from by
    rw [HC.out, if_neg h8, if_neg hr, if_neg (by
      rintro (⟨_, h⟩ | h)
      · exact hc0 h
      · exact h88 h)]]
  have HH := Lib.hid h88
  have HC0 := Lib.hid hc0
  clear h88 hc0
  have hlen : (kn : Int) ≤ (t.length : Int) + 1 := by simp at hr; omega
  generalize hct : c :: t = r at *
  have hrl : (kn : Int) ≤ (r.length : Int) := by omega
  have hr0 : 0 < r.length := by omega
  have hget : r[0]'hr0 = c := by subst hct; rfl
  have HCT := Lib.hid hct
  clear hct
  have hgk := HG.out
  by_cases hk8 : kn = 8
  · have hk8' : ((kn : Int) == 8) = true := by simp; omega
    have hc2 : ¬ (127 : Int) < (c.toNat : Int) := by intro h; exact HH.out ⟨hk8, by omega⟩
    have hc3 : decide ((127 : Int) < (c.toNat : Int)) = false := by simpa using hc2
    have HK8 := Lib.hid hk8
    clear hk8
    go_enter Tryd.func108, Tryd.ntmps108
    go_wp2_with fail
    go_loop [6, 7] (fun s6 s7 => ∃ j : Nat, j ≤ kn ∧ s7 = .int .i64 ((j : Int) + 1) ∧ s6 = .int .i64 (be ((r.take kn).take j))) (fun _ s7 => kn + 1 - (intOf s7).toNat)
    case atStart => exact ⟨0, by omega, rfl, by simp [be]⟩
    case round =>
      obtain ⟨j, hj, rfl, rfl⟩ := hrel
      by_cases hlt : j < kn
      · have hbd := HBD.out j hlt
        have hjr : j < r.length := by omega
        have hsn : be ((r.take kn).take (j + 1)) = be ((r.take kn).take j) * 256 + r[j].toNat := by
          rw [List.take_succ_eq_append_getElem (by rw [List.length_take]; omega), be_snoc, List.getElem_take]
        have HSN := Lib.hid hsn
        clear hsn
        have hbi := r[j].toNat_lt
        generalize be ((r.take kn).take j) = m at *
        go_wp2_with fail
        exact ⟨⟨j + 1, by omega, by go_num, by rw [HSN.out]; go_num⟩, by simp [intOf]; omega⟩
      · have hje : (r.take kn).take j = r.take kn := List.take_of_length_le (by rw [List.length_take]; omega)
        rw [hje]
        have hjk : j = kn := by omega
        subst hjk
        clear hje
        go_wp2_with fail
        go_quiet (fail)
        go_wp2_with fail
        go_ret3
        exact ⟨by simp; exact List.take_of_length_le (by simp), _, rfl⟩
  · have hk8' : ((kn : Int) == 8) = false := by simp; omega
    go_enter Tryd.func108, Tryd.ntmps108
    go_wp2_with fail
    go_loop [6, 7] (fun s6 s7 => ∃ j : Nat, j ≤ kn ∧ s7 = .int .i64 ((j : Int) + 1) ∧ s6 = .int .i64 (be ((r.take kn).take j))) (fun _ s7 => kn + 1 - (intOf s7).toNat)
    case atStart => exact ⟨0, by omega, rfl, by simp [be]⟩
    case round =>
      obtain ⟨j, hj, rfl, rfl⟩ := hrel
      by_cases hlt : j < kn
      · have hbd := HBD.out j hlt
        have hjr : j < r.length := by omega
        have hsn : be ((r.take kn).take (j + 1)) = be ((r.take kn).take j) * 256 + r[j].toNat := by
          rw [List.take_succ_eq_append_getElem (by rw [List.length_take]; omega), be_snoc, List.getElem_take]
        have HSN := Lib.hid hsn
        clear hsn
        have hbi := r[j].toNat_lt
        generalize be ((r.take kn).take j) = m at *
        go_wp2_with fail
        exact ⟨⟨j + 1, by omega, by go_num, by rw [HSN.out]; go_num⟩, by simp [intOf]; omega⟩
      · have hje : (r.take kn).take j = r.take kn := List.take_of_length_le (by rw [List.length_take]; omega)
        rw [hje]
        have hjk : j = kn := by omega
        subst hjk
        clear hje
        go_wp2_with fail
        go_quiet (fail)
        go_wp2_with fail
        go_ret3
        exact ⟨by simp; exact List.take_of_length_le (by simp), _, rfl⟩

end Go.Proofs.YtmldonbmjgelnaaDoor
