/- Ref2, MRef. -/
import Derived.Test.YthgjdaomcpinaaaGreatDoorMg1
import Derived.Test.YthgjdaomcpinaaaGreatDoorMg3
import Derived.Test.YthgjdaomcpinaaaGreatDoorMg9
import Derived.Test.YthgjdaomcpinaaaGreatDoorMg14
set_option linter.unnecessarySimpa false

/- Walks of the document's answer for layer 2. -/
set_option linter.unusedSimpArgs false
set_option linter.unusedVariables false
namespace Go.Proofs.YthgjdaomcpinaaaGreatDoor
open Go.RowKit Pl

set_option maxHeartbeats 1000000 in
theorem rNumber_any (n : Nat) (hn : n < 9223372036854775808) (w : World) :
    Calls Tryz.prog 88 #[.int .i64 (n)] w fun e w' => e = .returned (.string ⟨List.toArray (num n)⟩) ∧ Below w.heap.size w w' := by
  go_enter Tryz.func88, Tryz.ntmps88
  go_wp2_with fail
  go_loopw [0, 3] (fun s0 s3 wr => ∃ (k m : Nat) (d : Bs), d.length + k = 8 ∧ m < 256 ^ k ∧ m < 9223372036854775808 ∧ Hid (digs 8 n = digs k m ++ d) ∧ s0 = .int .i64 m ∧ s3 = .string ⟨List.toArray (d)⟩ ∧ Below w.heap.size w wr)
    (fun s0 _ _ => (intOf s0).toNat)
  case atStart =>
    exact ⟨8, n, [], rfl, by omega, hn, Lib.hid (by simp), rfl, rfl, Below.refl _ _⟩
  case round =>
    obtain ⟨k, m, d, hd, hm, hm2, HD, rfl, rfl, hb⟩ := hrel
    have hcat : ¬ 9223372036854775807 < 1 + d.length := by omega
    by_cases h0 : 0 < m
    · obtain ⟨j, rfl⟩ : ∃ j, k = j + 1 := by
        rcases Nat.eq_zero_or_pos k with h | h
        · subst h; omega
        · exact ⟨k - 1, by omega⟩
      go_wp2_with fail
      refine ⟨⟨j, m / 256, UInt8.ofNat (m % 256) :: d, by simp at hd ⊢; omega, by rw [Nat.pow_succ] at hm; omega, by omega, ?_, by go_num, ?_, by (repeat (first | exact Below.refl _ _ | assumption | apply Below.drew | apply below_drewN | apply Below.allocS | (refine Below.setCell ?_ (by simp <;> omega) _) | (refine Below.alloc ?_ (by simp <;> omega) _) | (refine Below.trans ?_ (Below.mono (by assumption) (by simp <;> omega)))))⟩, by simp [intOf]; omega⟩
      · refine Lib.hid ?_
        rw [HD.out, digs_step _ _ h0, List.append_assoc]; rfl
      · refine str_eq ?_
        simp
    · have hm0 : m = 0 := by omega
      subst hm0
      have hfin : num n = UInt8.ofNat d.length :: d := by
        unfold num
        rw [HD.out, digs_zero, List.nil_append]
      have HF := Lib.hid hfin
      clear hfin
      have hdl : (d.length : Int) ≤ 8 := by omega
      go_wp2_with fail
      go_ret
      exact ⟨by rw [HF.out]; rfl, by (repeat (first | exact Below.refl _ _ | assumption | apply Below.drew | apply below_drewN | apply Below.allocS | (refine Below.setCell ?_ (by simp <;> omega) _) | (refine Below.alloc ?_ (by simp <;> omega) _) | (refine Below.trans ?_ (Below.mono (by assumption) (by simp <;> omega)))))⟩

theorem rText_any (s : Bs) (hs : s.length < 9223372036854775000) (w : World) :
    Calls Tryz.prog 103 #[.string ⟨List.toArray (s)⟩] w fun e w' => e = .returned (.string ⟨List.toArray (text s)⟩) ∧ Below w.heap.size w w' := by
  have hl := num_len s.length
  have hcat : ¬ 9223372036854775807 < (num s.length).length + s.length := by omega
  go_enter Tryz.func103, Tryz.ntmps103
  go_wp2_with fail
  refine (rNumber_any s.length (by omega) _).mono ?_
  rintro e w1 ⟨rfl, hb⟩
  go_wp2_with fail
  go_ret
  exact ⟨rfl, hb⟩

theorem rtake_nil (w : World) : Calls Tryz.prog 116 #[.string ⟨List.toArray ([])⟩] w fun e w' => e = .returned (.tuple #[.int .i64 (0), .string ⟨List.toArray ([])⟩, .int .i64 (20)]) ∧ ∃ n, w' = w.drewN n := by
  go_enter Tryz.func116, Tryz.ntmps116
  go_wp2_with fail
  go_ret3
  exact ⟨rfl, 0, rfl⟩

theorem take_cons' (k : UInt8) (r : Bs) : Pl.take (k :: r) = (if 8 < k.toNat then (0, [], 3)
    else if r.length < k.toNat then (0, [], 20)
    else if (0 < k.toNat ∧ r.headD 0 = 0) ∨ (k.toNat = 8 ∧ 127 < (r.headD 0).toNat) then (0, [], 3)
    else (be (r.take k.toNat), r.drop k.toNat, 0)) := rfl

set_option maxRecDepth 100000 in
set_option maxHeartbeats 1000000 in
theorem rtake_cons (k : UInt8) (r : Bs) (hl : r.length < 9223372036854775800) (w : World) :
    Calls Tryz.prog 116 #[.string ⟨List.toArray (k :: r)⟩] w fun e w' => e = .returned (.tuple #[.int .i64 ((Pl.take (k :: r)).1), .string ⟨List.toArray ((Pl.take (k :: r)).2.1)⟩, .int .i64 ((Pl.take (k :: r)).2.2)]) ∧ ∃ n, w' = w.drewN n := by
  have HC := Lib.hid (take_cons' k r)
  have hk := k.toNat_lt
  generalize hgn : k.toNat = kn at *
  by_cases h8 : 8 < kn
  · rw [show Pl.take (k :: r) = (0, [], 3) from by rw [HC.out, if_pos h8]]
    have h8' : (8 : Int) < (kn : Int) := by omega
    go_enter Tryz.func116, Tryz.ntmps116
    go_wp2_with fail
    go_ret3
    exact ⟨rfl, 0, rfl⟩
  have h8' : ¬ (8 : Int) < (kn : Int) := by omega
  by_cases hr : r.length < kn
  · rw [show Pl.take (k :: r) = (0, [], 20) from by rw [HC.out, if_neg h8, if_pos hr]]
    have hr' : (r.length : Int) + 1 < (kn : Int) + 1 := by omega
    go_enter Tryz.func116, Tryz.ntmps116
    go_wp2_with fail
    go_ret3
    exact ⟨rfl, 0, rfl⟩
  have hr' : ¬ (r.length : Int) < (kn : Int) := by omega
  by_cases h0 : kn = 0
  · rw [show Pl.take (k :: r) = (0, r, 0) from by rw [HC.out, if_neg h8, if_neg hr, if_neg (by omega), h0]; rfl]
    subst h0
    go_enter Tryz.func116, Tryz.ntmps116
    go_wp2_with fail
    go_loop [6, 7] (fun s6 s7 => s6 = .int .i64 0 ∧ s7 = .int .i64 1) (fun _ _ => 0)
    case atStart => exact ⟨rfl, rfl⟩
    case round =>
      obtain ⟨rfl, rfl⟩ := hrel
      go_wp2_with fail
      go_quiet (fail)
      go_wp2_with fail
      go_ret3
      exact ⟨rfl, _, rfl⟩
  obtain ⟨c, t, rfl⟩ : ∃ c t, r = c :: t := by
    cases r with
    | nil => simp at hr; omega
    | cons c t => exact ⟨c, t, rfl⟩
  have hcl := c.toNat_lt
  have hk0 : (0 : Int) < (kn : Int) := by omega
  have HG := Lib.hid hgn
  clear hgn
  by_cases hc0 : c = 0
  · rw [show Pl.take (k :: c :: t) = (0, [], 3) from by rw [HC.out, if_neg h8, if_neg hr, if_pos (.inl ⟨by omega, hc0⟩)]]
    have hc1 : ((c.toNat : Int) == 0) = true := by rw [hc0]; rfl
    have HK := Lib.hid hc0
    clear hc0
    have hgk := HG.out
    go_enter Tryz.func116, Tryz.ntmps116
    go_wp2_with fail
    go_ret3
    exact ⟨rfl, 0, rfl⟩
  have hc1 : ((c.toNat : Int) == 0) = false := by
    have : c.toNat ≠ 0 := fun h => hc0 (UInt8.toNat_inj.1 (by simpa using h))
    simp; omega
  by_cases h88 : kn = 8 ∧ 127 < c.toNat
  · rw [show Pl.take (k :: c :: t) = (0, [], 3) from by rw [HC.out, if_neg h8, if_neg hr, if_pos (.inr h88)]]
    have hk8 : ((kn : Int) == 8) = true := by simp; omega
    have hc2 : (127 : Int) < (c.toNat : Int) := by omega
    have hc3 : decide ((127 : Int) < (c.toNat : Int)) = true := by simpa using hc2
    have HK := Lib.hid h88
    clear h88
    have hgk := HG.out
    go_enter Tryz.func116, Tryz.ntmps116
    go_wp2_with fail
    go_ret3
    exact ⟨rfl, 0, rfl⟩
  have hbl : ((c :: t).take kn).length = kn := by rw [List.length_take]; omega
  have hbound := be_bound ((c :: t).take kn) (by omega) (fun h => by
    obtain ⟨j, rfl⟩ : ∃ j, kn = j + 1 := ⟨kn - 1, by omega⟩
    simp only [List.take_succ_cons, List.headD_cons]
    have := fun h' => h88 ⟨by omega, h'⟩
    omega)
  rw [hbl] at hbound
  have HBD := Lib.hid hbound
  clear hbound hbl
  rw [show Pl.take (k :: c :: t) = (be ((c :: t).take kn), (c :: t).drop kn, 0) from by
    rw [HC.out, if_neg h8, if_neg hr, if_neg (by
      rintro (⟨_, h⟩ | h)
      · exact hc0 h
      · exact h88 h)]]
  have HH := Lib.hid h88
  have HC0 := Lib.hid hc0
  clear h88 hc0
  have hlen : (kn : Int) ≤ (t.length : Int) + 1 := by simp at hr; omega
  generalize hct : c :: t = r at *
  have hrl : (kn : Int) ≤ (r.length : Int) := by omega
  have hr0 : 0 < r.length := by omega
  have hget : r[0]'hr0 = c := by subst hct; rfl
  have HCT := Lib.hid hct
  clear hct
  have hgk := HG.out
  by_cases hk8 : kn = 8
  · have hk8' : ((kn : Int) == 8) = true := by simp; omega
    have hc2 : ¬ (127 : Int) < (c.toNat : Int) := by intro h; exact HH.out ⟨hk8, by omega⟩
    have hc3 : decide ((127 : Int) < (c.toNat : Int)) = false := by simpa using hc2
    have HK8 := Lib.hid hk8
    clear hk8
    go_enter Tryz.func116, Tryz.ntmps116
    go_wp2_with fail
    go_loop [6, 7] (fun s6 s7 => ∃ j : Nat, j ≤ kn ∧ s7 = .int .i64 ((j : Int) + 1) ∧ s6 = .int .i64 (be ((r.take kn).take j))) (fun _ s7 => kn + 1 - (intOf s7).toNat)
    case atStart => exact ⟨0, by omega, rfl, by simp [be]⟩
    case round =>
      obtain ⟨j, hj, rfl, rfl⟩ := hrel
      by_cases hlt : j < kn
      · have hbd := HBD.out j hlt
        have hjr : j < r.length := by omega
        have hsn : be ((r.take kn).take (j + 1)) = be ((r.take kn).take j) * 256 + r[j].toNat := by
          rw [List.take_succ_eq_append_getElem (by rw [List.length_take]; omega), be_snoc, List.getElem_take]
        have HSN := Lib.hid hsn
        clear hsn
        have hbi := r[j].toNat_lt
        generalize be ((r.take kn).take j) = m at *
        go_wp2_with fail
        exact ⟨⟨j + 1, by omega, by go_num, by rw [HSN.out]; go_num⟩, by simp [intOf]; omega⟩
      · have hje : (r.take kn).take j = r.take kn := List.take_of_length_le (by rw [List.length_take]; omega)
        rw [hje]
        have hjk : j = kn := by omega
        subst hjk
        clear hje
        go_wp2_with fail
        go_quiet (fail)
        go_wp2_with fail
        go_ret3
        exact ⟨by simp; exact List.take_of_length_le (by simp), _, rfl⟩
  · have hk8' : ((kn : Int) == 8) = false := by simp; omega
    go_enter Tryz.func116, Tryz.ntmps116
    go_wp2_with fail
    go_loop [6, 7] (fun s6 s7 => ∃ j : Nat, j ≤ kn ∧ s7 = .int .i64 ((j : Int) + 1) ∧ s6 = .int .i64 (be ((r.take kn).take j))) (fun _ s7 => kn + 1 - (intOf s7).toNat)
    case atStart => exact ⟨0, by omega, rfl, by simp [be]⟩
    case round =>
      obtain ⟨j, hj, rfl, rfl⟩ := hrel
      by_cases hlt : j < kn
      · have hbd := HBD.out j hlt
        have hjr : j < r.length := by omega
        have hsn : be ((r.take kn).take (j + 1)) = be ((r.take kn).take j) * 256 + r[j].toNat := by
          rw [List.take_succ_eq_append_getElem (by rw [List.length_take]; omega), be_snoc, List.getElem_take]
        have HSN := Lib.hid hsn
        clear hsn
        have hbi := r[j].toNat_lt
        generalize be ((r.take kn).take j) = m at *
        go_wp2_with fail
        exact ⟨⟨j + 1, by omega, by go_num, by rw [HSN.out]; go_num⟩, by simp [intOf]; omega⟩
      · have hje : (r.take kn).take j = r.take kn := List.take_of_length_le (by rw [List.length_take]; omega)
        rw [hje]
        have hjk : j = kn := by omega
        subst hjk
        clear hje
        go_wp2_with fail
        go_quiet (fail)
        go_wp2_with fail
        go_ret3
        exact ⟨by simp; exact List.take_of_length_le (by simp), _, rfl⟩

end Go.Proofs.YthgjdaomcpinaaaGreatDoor

/- The document's sets: may one be, its bytes, its sum. -/
set_option linter.unusedSimpArgs false
set_option linter.unusedVariables false
namespace Go.Proofs.YthgjdaomcpinaaaGreatDoor
open Go.RowKit Pl

theorem drewN_two (w : World) (q n : Nat) : (w.drewN q).drewN n = w.drewN (q + n) := by
  first | exact World.drewN_drewN _ _ _ | simp
theorem leS_nil (z : Bs) : leS [] z = true := by
  cases z <;> simp [leS, Op.bytesLess]
theorem leS_zero (n : Bs) (h : n ≠ []) : leS n [] = false := by
  cases n with
  | nil => exact absurd rfl h
  | cons a r => simp [leS, Op.bytesLess]

set_option maxRecDepth 100000 in
set_option maxHeartbeats 2000000 in
theorem rmcheck_any (v : Value) (l : List (Bs × Int)) (w : World) (hv : MS w v l) :
    Calls Tryz.prog 100 #[v] w fun e w' => e = .returned (.int .i64 (setI (chkM l))) ∧ ∃ n, w' = w.drewN n := by
  generalize hr : setI (chkM l) = r
  have HR := Lib.hid hr
  clear hr
  obtain ⟨a, c, rfl⟩ := hv.form
  have hm := hv.small
  have HV := Lib.hid hv
  by_cases h0 : l.length = 0
  · rw [h0]
    clear HV hv
    go_enter Tryz.func100, Tryz.ntmps100
    go_wp2_with fail
    all_goals (go_ret; refine ⟨?_, 0, rfl⟩; rw [← HR.out]; simp [chkM, h0, setI])
  · by_cases h7 : 7 < l.length
    · have hd : decide ((7 : Int) < (l.length : Int)) = true := by simp; omega
      have hd0 : decide ((l.length : Int) < 1) = false := by simp; omega
      clear HV hv
      go_enter Tryz.func100, Tryz.ntmps100
      go_wp2_with fail
      all_goals (go_ret; refine ⟨?_, 0, rfl⟩; rw [← HR.out]; have : ¬ l.length ≤ 7 := (by omega); simp [chkM, this, setI])
    · have hd : decide ((7 : Int) < (l.length : Int)) = false := by simp; omega
      have hd0 : decide ((l.length : Int) < 1) = false := by simp; omega
      have HR2 : Hid (setI (okM [] l) = r) := Lib.hid (by rw [← HR.out]; have : l.length ≤ 7 := (by omega); simp [chkM, this, h0])
      clear HR hv h0
      go_enter Tryz.func100, Tryz.ntmps100
      go_wp2_with fail
      go_loopw [3] (fun s3 wr => ∃ i : Nat, i ≤ l.length ∧ s3 = .int .i64 i ∧ Hid (setI (okM (lastN l i) (l.drop i)) = r) ∧ ∃ q, wr = w.drewN q) (fun s3 _ => l.length - (intOf s3).toNat)
      case atStart => exact ⟨0, by omega, rfl, HR2, 0, rfl⟩
      case round =>
        obtain ⟨i, hi, rfl, HI, q, rfl⟩ := hrel
        by_cases hlt : i < l.length
        · have hlt' : (i : Int) < (l.length : Int) := by omega
          obtain ⟨g, off, rfl, hg, c1, c2⟩ := HV.out.at i hlt
          have hi2 := HI.out
          rw [drop_getD l i hlt] at hi2
          have hnx : lastN l (i + 1) = (l.getD i ([], 0)).1 := rfl
          generalize hx : l.getD i ([], 0) = x at *
          obtain ⟨n, p⟩ := x
          simp only at c1 c2 hnx
          unfold okM at hi2
          by_cases hne : n = []
          · subst hne
            rw [leS_nil] at hi2
            have HI2 : Hid (50 = r) := Lib.hid (by rw [← hi2]; simp [setI])
            clear HI hi2 HR2
            go_wp2_with fail
            all_goals (go_ret; refine ⟨?_, q, rfl⟩; rw [← HI2.out]; rfl)
          · have hn1 : 0 < n.length := List.length_pos_iff.2 hne
            have hn2 : decide ((n.length : Int) < 1) = false := by simp; omega
            have hn3 : ¬ ((n.length : Int) < 1) := by omega
            cases hb : decide ((6 : Int) < (n.length : Int)) || decide (p < 1) || decide (1000 < p)
            · simp only [Bool.or_eq_false_iff] at hb
              obtain ⟨⟨e1, e2⟩, e3⟩ := hb
              rw [e1, e2, e3] at hi2
              by_cases hi0 : i = 0
              · subst hi0
                have hz : lastN l 0 = [] := rfl
                rw [hz, leS_zero n hne] at hi2
                have HI2 : Hid (setI (okM n (l.drop 1)) = r) := Lib.hid (by rw [← hi2]; simp)
                clear HI hi2 HR2 hz
                rw [Nat.zero_mul, Nat.add_zero] at c1 c2
                go_wp2_with fail
                go_quiet (fail)
                go_wp2_with fail
                exact ⟨⟨1, by omega, by go_num, by rw [hnx]; exact HI2, _, rfl⟩, by simp [intOf]; omega⟩
              · obtain ⟨j, hj⟩ : ∃ j, i = j + 1 := ⟨i - 1, by omega⟩
                obtain ⟨g', off', hgo, hg', c3, c4⟩ := HV.out.at j (by omega)
                injection hgo with hgo
                injection hgo with hgo1 hgo2
                subst hgo1 hgo2
                have hz : lastN l i = (l.getD j ([], 0)).1 := by rw [hj]; rfl
                rw [← hz] at c3
                have q1 : IntKind.i64.wrap ((i : Int) - 1) = (j : Int) := by rw [show (i : Int) - 1 = (j : Int) from by omega]; exact IntWalk.i64_in _ (by omega)
                have q2 : (j : Int) < (l.length : Int) := by omega
                have q3 : decide ((0 : Int) < (i : Int)) = true := by rw [decide_eq_true_iff]; omega
                have q4 : (0 : Int) < (i : Int) := by omega
                have q5 : 0 < i := by omega
                have q6 : ¬ i = 0 := hi0
                generalize lastN l i = z at *
                clear c4 HI HR2 hj hz
                cases hle : leS n z
                · rw [hle] at hi2
                  have HI2 : Hid (setI (okM n (l.drop (i + 1))) = r) := Lib.hid (by rw [← hi2]; simp)
                  clear hi2
                  go_wp2_with fail
                  go_quiet (fail)
                  go_wp2_with fail
                  exact ⟨⟨i + 1, by omega, by go_num, by rw [hnx]; exact HI2, _, rfl⟩, by simp [intOf]; omega⟩
                · rw [hle] at hi2
                  have HI2 : Hid (50 = r) := Lib.hid (by rw [← hi2]; simp [setI])
                  clear hi2
                  go_wp2_with fail
                  go_quiet (fail)
                  go_wp2_with fail
                  all_goals (go_ret; refine ⟨?_, _, drewN_two _ _ _⟩; rw [← HI2.out]; rfl)
            · have HI2 : Hid (50 = r) := Lib.hid (by
                rw [← hi2]
                simp only [Bool.or_eq_true] at hb
                rcases hb with (hb | hb) | hb <;> rw [hb] <;> simp [setI])
              clear hi2 HI HR2
              go_wp2_with fail
              all_goals (go_ret; refine ⟨?_, _, rfl⟩; rw [← HI2.out]; rfl)
        · obtain rfl : i = l.length := by omega
          go_wp2_with fail
          all_goals (go_ret; refine ⟨?_, q, rfl⟩; rw [← HI.out]; simp [okM, setI])

set_option maxRecDepth 100000 in
set_option maxHeartbeats 2000000 in
theorem rmencode_any (v : Value) (l : List (Bs × Int)) (w : World) (hv : MS w v l) :
    Calls Tryz.prog 102 #[v] w fun e w' => e = .returned (.tuple #[.string ⟨List.toArray ((encMR l).1)⟩, .int .i64 ((encMR l).2)]) ∧ Below w.heap.size w w' := by
  generalize hr : encMR l = r
  have HR := Lib.hid hr
  clear hr
  obtain ⟨a, c, rfl⟩ := hv.form
  have hm := hv.small
  have hchk := rmcheck_any _ l w hv
  have HV := Lib.hid hv
  clear hv
  cases hc : chkM l
  · rw [hc] at hchk
    have HC := Lib.hid hchk
    have HR2 : Hid (([], 50) = r) := Lib.hid (by rw [← HR.out]; simp [encMR, hc])
    clear hchk hc HR HV
    go_enter Tryz.func102, Tryz.ntmps102
    go_wp2_with fail
    refine HC.out.mono ?_
    rintro e w1 ⟨rfl, q, rfl⟩
    unfold setI
    go_wp2_with fail
    all_goals (go_ret2; refine ⟨?_, below_drewN (Below.refl _ _) _⟩; rw [← HR2.out]; rfl)
  · rw [hc] at hchk
    have HC := Lib.hid hchk
    have HR2 : Hid ((encM l, 0) = r) := Lib.hid (by rw [← HR.out]; simp [encMR, hc])
    simp only [chkM, Bool.and_eq_true, decide_eq_true_eq] at hc
    have h7 := hc.1.2
    have HO := Lib.hid (okM_at l [] hc.2)
    have HB := Lib.hid (memsB_len l (fun i hi => (HO.out i hi).1))
    clear hchk hc HR
    go_enter Tryz.func102, Tryz.ntmps102
    go_wp2_with fail
    refine HC.out.mono ?_
    rintro e w1 ⟨rfl, q, rfl⟩
    unfold setI
    go_wp2_with fail
    refine (rNumber_any l.length (by omega) _).mono ?_
    rintro e w2 ⟨rfl, hb2⟩
    have hb3 : Below w.heap.size w w2 := (below_drewN (Below.refl _ _) _).trans (hb2.mono (by simp))
    go_wp2_with fail
    go_loopw [4, 5] (fun s4 s5 wr => ∃ i : Nat, i ≤ l.length ∧ s5 = .int .i64 i ∧ s4 = .string ⟨List.toArray (num l.length ++ memsB (l.take i))⟩ ∧ Below w.heap.size w wr) (fun _ s5 _ => l.length - (intOf s5).toNat)
    case atStart => exact ⟨0, by omega, rfl, by simp [memsB], hb3⟩
    case round =>
      obtain ⟨i, hi, rfl, rfl, hb⟩ := hrel
      obtain ⟨wq, h⟩ := Below.nm hb
      subst h
      by_cases hlt : i < l.length
      · obtain ⟨g, off, rfl, hg, c1, c2⟩ := (HV.out.keep hb).at i hlt
        have hlt' : (i : Int) < (l.length : Int) := by omega
        obtain ⟨o1, o2, o3⟩ := HO.out i hlt
        have hB := HB.out i (by omega)
        have hnx : num l.length ++ memsB (l.take (i + 1)) = num l.length ++ memsB (l.take i) ++ (text (l.getD i ([], 0)).1 ++ num (l.getD i ([], 0)).2.toNat) := by
          rw [take_getD l i hlt, memsB_app, List.append_assoc]
        have hn9 := num_len l.length
        have hs9 : (num l.length ++ memsB (l.take i)).length ≤ 200 := by rw [List.length_append]; omega
        generalize hx : l.getD i ([], 0) = x at *
        obtain ⟨n, p⟩ := x
        simp only at c1 c2 hnx o1 o2 o3
        obtain ⟨m, rfl⟩ : ∃ m : Nat, p = m := ⟨p.toNat, by omega⟩
        rw [Int.toNat_natCast] at hnx
        generalize num l.length ++ memsB (l.take i) = s at *
        have hm9 := num_len m
        have ht9 : (text n).length ≤ 15 := by have := num_len n.length; simp only [text, List.length_append]; omega
        have hcat : ¬ 9223372036854775807 < s.length + (text n).length := by omega
        have hcat2 : ¬ 9223372036854775807 < s.length + (text n).length + (num m).length := by omega
        clear hx hB HB
        go_wp2_with fail
        refine wpH_start (by kernel_rfl) (fun hS => ?_)
        (refine wpH_pure 0 ?_ (oi := { dst := some 18, op := Op.move (Operand.tmp 4), type := 9, pos := "ref.go:119", after := #[], guard := none }) rfl (by kernel_rfl) (by kernel_rfl) (by kernel_rfl) (by rfl) hS (fun _ _ _ h => h) ?_ ?_; rotate_left; focus (intro w; go_simp; try with_reducible rfl))
        try simp only [Act.put, List.setIfInBounds_toArray, List.set_cons_zero, List.set_cons_succ]
        (refine wpH_pure 1 ?_ (oi := { dst := some 19, op := Op.move (Operand.tmp 0), type := 25, pos := "ref.go:119", after := #[], guard := none }) rfl (by kernel_rfl) (by kernel_rfl) (by kernel_rfl) (by rfl) hS (fun _ _ _ h => h) ?_ ?_; rotate_left; focus (intro w; go_simp; try with_reducible rfl))
        try simp only [Act.put, List.setIfInBounds_toArray, List.set_cons_zero, List.set_cons_succ]
        (refine wpH_pure 2 ?_ (oi := { dst := some 20, op := Op.move (Operand.tmp 5), type := 3, pos := "ref.go:119", after := #[], guard := none }) rfl (by kernel_rfl) (by kernel_rfl) (by kernel_rfl) (by rfl) hS (fun _ _ _ h => h) ?_ ?_; rotate_left; focus (intro w; go_simp; try with_reducible rfl))
        try simp only [Act.put, List.setIfInBounds_toArray, List.set_cons_zero, List.set_cons_succ]
        (refine wpH_pure 3 ?_ (oi := { dst := some 21, op := Op.indexAddr 25 (Operand.tmp 19) (Operand.tmp 20), type := 0, pos := "ref.go:119", after := #[{ on := 1, ground := Ground.data }, { on := 2, ground := Ground.data }], guard := none }) rfl (by kernel_rfl) (by kernel_rfl) (by kernel_rfl) (by rfl) hS (fun _ _ _ h => h) ?_ ?_; rotate_left; focus (intro w; go_simp; try with_reducible rfl))
        try simp only [Act.put, List.setIfInBounds_toArray, List.set_cons_zero, List.set_cons_succ]
        (refine wpH_pure 4 ?_ (oi := { dst := some 22, op := Op.fieldAddr 130 (Operand.tmp 21) 0, type := 0, pos := "ref.go:119", after := #[{ on := 3, ground := Ground.data }], guard := none }) rfl (by kernel_rfl) (by kernel_rfl) (by kernel_rfl) (by rfl) hS (fun _ _ _ h => h) ?_ ?_; rotate_left; focus (intro w; go_simp; try with_reducible rfl))
        try simp only [Act.put, List.setIfInBounds_toArray, List.set_cons_zero, List.set_cons_succ]
        refine wpH_load 5 (.string ⟨List.toArray (n)⟩) (oi := { dst := some 23, op := Op.load 9 (Operand.tmp 22), type := 9, pos := "ref.go:119", after := #[{ on := 4, ground := Ground.data }], guard := none }) rfl (by kernel_rfl) (by kernel_rfl) (by kernel_rfl) (by rfl) hS (fun _ _ _ h => h) (fun w hb => (by have c := (hb.cell (p := ⟨g, off + i * 2, none⟩) hg).trans c1; go_simp; try rfl)) ?_
        try simp only [Act.put, List.setIfInBounds_toArray, List.set_cons_zero, List.set_cons_succ]
        (refine wpH_pure 8 ?_ (oi := { dst := some 26, op := Op.move (Operand.tmp 0), type := 25, pos := "ref.go:119", after := #[], guard := none }) rfl (by kernel_rfl) (by kernel_rfl) (by kernel_rfl) (by rfl) hS (fun _ _ _ h => h) ?_ ?_; rotate_left; focus (intro w; go_simp; try with_reducible rfl))
        try simp only [Act.put, List.setIfInBounds_toArray, List.set_cons_zero, List.set_cons_succ]
        (refine wpH_pure 9 ?_ (oi := { dst := some 27, op := Op.move (Operand.tmp 5), type := 3, pos := "ref.go:119", after := #[], guard := none }) rfl (by kernel_rfl) (by kernel_rfl) (by kernel_rfl) (by rfl) hS (fun _ _ _ h => h) ?_ ?_; rotate_left; focus (intro w; go_simp; try with_reducible rfl))
        try simp only [Act.put, List.setIfInBounds_toArray, List.set_cons_zero, List.set_cons_succ]
        (refine wpH_pure 10 ?_ (oi := { dst := some 28, op := Op.indexAddr 25 (Operand.tmp 26) (Operand.tmp 27), type := 0, pos := "ref.go:119", after := #[{ on := 8, ground := Ground.data }, { on := 9, ground := Ground.data }], guard := none }) rfl (by kernel_rfl) (by kernel_rfl) (by kernel_rfl) (by rfl) hS (fun _ _ _ h => h) ?_ ?_; rotate_left; focus (intro w; go_simp; try with_reducible rfl))
        try simp only [Act.put, List.setIfInBounds_toArray, List.set_cons_zero, List.set_cons_succ]
        (refine wpH_pure 11 ?_ (oi := { dst := some 29, op := Op.fieldAddr 130 (Operand.tmp 28) 1, type := 0, pos := "ref.go:119", after := #[{ on := 10, ground := Ground.data }], guard := none }) rfl (by kernel_rfl) (by kernel_rfl) (by kernel_rfl) (by rfl) hS (fun _ _ _ h => h) ?_ ?_; rotate_left; focus (intro w; go_simp; try with_reducible rfl))
        try simp only [Act.put, List.setIfInBounds_toArray, List.set_cons_zero, List.set_cons_succ]
        refine wpH_load 12 (.int .i64 (m)) (oi := { dst := some 30, op := Op.load 3 (Operand.tmp 29), type := 3, pos := "ref.go:119", after := #[{ on := 11, ground := Ground.data }], guard := none }) rfl (by kernel_rfl) (by kernel_rfl) (by kernel_rfl) (by rfl) hS (fun _ _ _ h => h) (fun w hb => (by have c := (hb.cell (p := ⟨g, off + i * 2 + 1, none⟩) hg).trans c2; go_simp; try rfl)) ?_
        try simp only [Act.put, List.setIfInBounds_toArray, List.set_cons_zero, List.set_cons_succ]
        refine wpH_call 6 (oi := { dst := some 24, op := Op.call { callee := Callee.value (Operand.func 103), args := #[Operand.tmp 23], argTypes := #[9] }, type := 9, pos := "ref.go:119", after := #[{ on := 5, ground := Ground.data }], guard := none }) rfl (by kernel_rfl) (by rfl) (rText_any n (by omega) _) ?_ ?_
        · (go_simp; try rfl)
        rintro e w' ⟨rfl, hbx⟩
        refine ⟨_, rfl, hS.trans (hbx.mono hS.size), ?_⟩
        replace hS := hS.trans (hbx.mono hS.size)
        try simp only [Act.put, List.setIfInBounds_toArray, List.set_cons_zero, List.set_cons_succ]
        (refine wpH_pure 7 ?_ (oi := { dst := some 25, op := Op.binOp BinOp.add 9 (Operand.tmp 18) (Operand.tmp 24) 9, type := 9, pos := "ref.go:119", after := #[{ on := 0, ground := Ground.data }, { on := 6, ground := Ground.data }], guard := none }) rfl (by kernel_rfl) (by kernel_rfl) (by kernel_rfl) (by rfl) hS (fun _ _ _ h => h) ?_ ?_; rotate_left; focus (intro w; go_simp; try with_reducible rfl))
        try simp only [Act.put, List.setIfInBounds_toArray, List.set_cons_zero, List.set_cons_succ]
        refine wpH_call 13 (oi := { dst := some 31, op := Op.call { callee := Callee.value (Operand.func 88), args := #[Operand.tmp 30], argTypes := #[3] }, type := 9, pos := "ref.go:119", after := #[{ on := 12, ground := Ground.data }, { on := 6, ground := Ground.chain }], guard := none }) rfl (by kernel_rfl) (by rfl) (rNumber_any m (by omega) _) ?_ ?_
        · (go_simp; try rfl)
        rintro e w' ⟨rfl, hbx⟩
        refine ⟨_, rfl, hS.trans (hbx.mono hS.size), ?_⟩
        replace hS := hS.trans (hbx.mono hS.size)
        try simp only [Act.put, List.setIfInBounds_toArray, List.set_cons_zero, List.set_cons_succ]
        (refine wpH_pure 14 ?_ (oi := { dst := some 32, op := Op.binOp BinOp.add 9 (Operand.tmp 25) (Operand.tmp 31) 9, type := 9, pos := "ref.go:119", after := #[{ on := 7, ground := Ground.data }, { on := 13, ground := Ground.data }], guard := none }) rfl (by kernel_rfl) (by kernel_rfl) (by kernel_rfl) (by rfl) hS (fun _ _ _ h => h) ?_ ?_; rotate_left; focus (intro w; go_simp; try with_reducible rfl))
        try simp only [Act.put, List.setIfInBounds_toArray, List.set_cons_zero, List.set_cons_succ]
        (refine wpH_pure 15 ?_ (oi := { dst := some 4, op := Op.assign (Operand.tmp 32), type := 9, pos := "ref.go:119", after := #[{ on := 14, ground := Ground.data }, { on := 13, ground := Ground.chain }, { on := 0, ground := Ground.phase }, { on := 1, ground := Ground.phase }, { on := 2, ground := Ground.phase }, { on := 3, ground := Ground.phase }, { on := 4, ground := Ground.phase }, { on := 5, ground := Ground.phase }, { on := 6, ground := Ground.phase }, { on := 7, ground := Ground.phase }, { on := 8, ground := Ground.phase }, { on := 9, ground := Ground.phase }, { on := 10, ground := Ground.phase }, { on := 11, ground := Ground.phase }, { on := 12, ground := Ground.phase }, { on := 13, ground := Ground.phase }, { on := 14, ground := Ground.phase }], guard := none }) rfl (by kernel_rfl) (by kernel_rfl) (by kernel_rfl) (by rfl) hS (fun _ _ _ h => h) ?_ ?_; rotate_left; focus (intro w; go_simp; try with_reducible rfl))
        try simp only [Act.put, List.setIfInBounds_toArray, List.set_cons_zero, List.set_cons_succ]
        refine wpAnyH_done (by kernel_rfl) ?_ _
        go_wp2_with fail
        exact ⟨⟨i + 1, by omega, by go_num, by rw [hnx], hb.trans (hS.mono hb.size)⟩, by simp [intOf]; omega⟩
      · obtain rfl : i = l.length := by omega
        go_wp2_with fail
        all_goals (go_ret2; refine ⟨?_, hb⟩; rw [← HR2.out]; simp [encM])

set_option maxRecDepth 100000 in
set_option maxHeartbeats 1000000 in
theorem rmdigest_any (v : Value) (l : List (Bs × Int)) (w : World) (hv : MS w v l) :
    Calls Tryz.prog 101 #[v] w fun e w' => e = .returned (.string ⟨List.toArray (dgM l)⟩) ∧ Below w.heap.size w w' := by
  generalize hd : dgM l = d
  have HD := Lib.hid hd
  clear hd
  obtain ⟨a, c, rfl⟩ := hv.form
  have hm := hv.small
  have hen := rmencode_any _ l w hv
  cases hc : chkM l
  · rw [show encMR l = ([], 50) from by simp [encMR, hc]] at hen
    have HZ : Hid ([] = d) := Lib.hid (by rw [← HD.out]; simp [dgM, hc])
    have HE := Lib.hid hen
    clear hen hv HD hc
    go_enter Tryz.func101, Tryz.ntmps101
    go_wp2_with fail
    refine HE.out.mono ?_
    rintro e w1 ⟨rfl, hb⟩
    go_wp2_with fail
    all_goals (go_ret; refine ⟨?_, hb⟩; rw [← HZ.out]; rfl)
  · rw [show encMR l = (encM l, 0) from by simp [encMR, hc]] at hen
    have HZ : Hid (tagP 4 (encM l) = d) := Lib.hid (by rw [← HD.out]; simp [dgM, hc])
    have hl := encM_len l hc
    have HE := Lib.hid hen
    clear hen hv HD hc
    generalize encM l = t at *
    go_enter Tryz.func101, Tryz.ntmps101
    go_wp2_with fail
    refine HE.out.mono ?_
    rintro e w1 ⟨rfl, hb⟩
    go_wp2_with fail
    refine (tagged_any 4 (by omega) t (by omega) _).mono ?_
    rintro e w2 ⟨rfl, hb2⟩
    go_wp2_with fail
    all_goals (go_ret; refine ⟨?_, hb.trans (hb2.mono hb.size)⟩; rw [← HZ.out]; rfl)

end Go.Proofs.YthgjdaomcpinaaaGreatDoor
