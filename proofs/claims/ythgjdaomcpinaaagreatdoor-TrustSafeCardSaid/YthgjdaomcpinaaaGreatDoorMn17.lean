/- MEnc, MDec, Fine. -/
import Derived.Test.YthgjdaomcpinaaaGreatDoorMn2
import Derived.Test.YthgjdaomcpinaaaGreatDoorMn4
import Derived.Test.YthgjdaomcpinaaaGreatDoorMn5
import Derived.Test.YthgjdaomcpinaaaGreatDoorMn9
import Derived.Test.YthgjdaomcpinaaaGreatDoorMn16
set_option linter.unnecessarySimpa false

/- A set as bytes, and its sum: the program's. -/
set_option linter.unusedSimpArgs false
set_option linter.unusedVariables false
namespace Go.Proofs.YthgjdaomcpinaaaGreatDoor
open Go.RowKit Pl

namespace Pl
/-- Members as bytes. -/
def memsB : List (Bs × Int) → Bs
  | [] => []
  | (n, p) :: r => text n ++ num p.toNat ++ memsB r
def encM (l : List (Bs × Int)) : Bs := num l.length ++ memsB l
def encMR (l : List (Bs × Int)) : Bs × Int := if chkM l then (encM l, 0) else ([], 50)
theorem memsB_app (a : List (Bs × Int)) (x : Bs × Int) : memsB (a ++ [x]) = memsB a ++ (text x.1 ++ num x.2.toNat) := by
  induction a with
  | nil => simp [memsB]
  | cons y r ih => simp [memsB, ih, List.append_assoc]
theorem memsB_len (l : List (Bs × Int)) (h : ∀ i, i < l.length → (l.getD i ([], 0)).1.length ≤ 6) : ∀ k, k ≤ l.length → (memsB (l.take k)).length ≤ 24 * k
  | 0, _ => by simp [memsB]
  | k + 1, hk => by
    have h1 := memsB_len l h k (by omega)
    have h2 := h k (by omega)
    rw [take_getD l k (by omega), memsB_app]
    have h3 := num_len (l.getD k ([], 0)).2.toNat
    have h4 := num_len (l.getD k ([], 0)).1.length
    simp only [List.length_append, text]
    omega
end Pl

set_option maxRecDepth 100000 in
set_option maxHeartbeats 2000000 in
theorem mencode_any (v : Value) (l : List (Bs × Int)) (w : World) (hv : MS w v l) :
    Calls Tryz.prog 48 #[v] w fun e w' => e = .returned (.tuple #[.string ⟨List.toArray ((encMR l).1)⟩, .int .i64 ((encMR l).2)]) ∧ Below w.heap.size w w' := by
  generalize hr : encMR l = r
  have HR := Lib.hid hr
  clear hr
  obtain ⟨a, c, rfl⟩ := hv.form
  have hm := hv.small
  have hchk := mcheck_any _ l w hv
  have HV := Lib.hid hv
  clear hv
  cases hc : chkM l
  · rw [hc] at hchk
    have HC := Lib.hid hchk
    have HR2 : Hid (([], 50) = r) := Lib.hid (by rw [← HR.out]; simp [encMR, hc])
    clear hchk hc HR HV
    go_enter Tryz.func48, Tryz.ntmps48
    go_wp2_with fail
    refine HC.out.mono ?_
    rintro e w1 ⟨rfl, hb⟩
    unfold setI
    go_wp2_with fail
    all_goals (go_ret2; refine ⟨?_, hb⟩; rw [← HR2.out]; rfl)
  · rw [hc] at hchk
    have HC := Lib.hid hchk
    have HR2 : Hid ((encM l, 0) = r) := Lib.hid (by rw [← HR.out]; simp [encMR, hc])
    simp only [chkM, Bool.and_eq_true, decide_eq_true_eq] at hc
    have h7 := hc.1.2
    have HO := Lib.hid (okM_at l [] hc.2)
    have HB := Lib.hid (memsB_len l (fun i hi => (HO.out i hi).1))
    clear hchk hc HR
    go_enter Tryz.func48, Tryz.ntmps48
    go_wp2_with fail
    refine HC.out.mono ?_
    rintro e w1 ⟨rfl, hb⟩
    unfold setI
    go_wp2_with fail
    refine (cNum_any l.length (by omega) _).mono ?_
    rintro e w2 ⟨rfl, hb2⟩
    have hb3 := hb.trans (hb2.mono hb.size)
    go_wp2_with fail
    go_loopw [5, 24] (fun s5 s24 wr => ∃ i : Nat, i ≤ l.length ∧ s24 = .int .i64 i ∧ s5 = .string ⟨List.toArray (num l.length ++ memsB (l.take i))⟩ ∧ Below w.heap.size w wr) (fun _ s24 _ => l.length - (intOf s24).toNat)
    case atStart => exact ⟨0, by omega, rfl, by simp [memsB], hb3⟩
    case round =>
      obtain ⟨i, hi, rfl, rfl, hb⟩ := hrel
      obtain ⟨wq, h⟩ := Below.nm hb
      subst h
      by_cases hlt : i < l.length
      · obtain ⟨g, off, rfl, hg, c1, c2⟩ := (HV.out.keep hb).at i hlt
        obtain ⟨o1, o2, o3⟩ := HO.out i hlt
        have hB := HB.out i (by omega)
        have hnx : num l.length ++ memsB (l.take (i + 1)) = num l.length ++ memsB (l.take i) ++ (text (l.getD i ([], 0)).1 ++ num (l.getD i ([], 0)).2.toNat) := by
          rw [take_getD l i hlt, memsB_app, List.append_assoc]
        have hn9 := num_len l.length
        have hs9 : (num l.length ++ memsB (l.take i)).length ≤ 200 := by rw [List.length_append]; omega
        generalize hx : l.getD i ([], 0) = x at *
        obtain ⟨n, p⟩ := x
        simp only at c1 c2 hnx o1 o2 o3
        obtain ⟨m, rfl⟩ : ∃ m : Nat, p = m := ⟨p.toNat, by omega⟩
        rw [Int.toNat_natCast] at hnx
        generalize num l.length ++ memsB (l.take i) = s at *
        have hm9 := num_len m
        have ht9 : (text n).length ≤ 15 := by have := num_len n.length; simp only [text, List.length_append]; omega
        have hcat : ¬ 9223372036854775807 < (text n).length + (num m).length := by omega
        have hcat2 : ¬ 9223372036854775807 < s.length + ((text n).length + (num m).length) := by omega
        clear hx hB HB
        go_wp2_with fail
        refine (cNum_any m (by omega) _).mono ?_
        rintro e w4 ⟨rfl, hb4⟩
        have c1' : w4.cell? ⟨wq.heap.size, 0, none⟩ = some (.string ⟨List.toArray (n)⟩) := (hb4.cell (p := ⟨wq.heap.size, 0, none⟩) (by simp)).trans (by simp)
        have hb5 := (Below.allocS hb (.cells #[.string ⟨List.toArray (n)⟩, .int .i64 (m)] 130)).trans (hb4.mono (by simp; have := hb.size; omega))
        go_wp2_with fail
        refine (ctext_any n (by omega) _).mono ?_
        rintro e w5 ⟨rfl, hb6⟩
        have hb7 := hb5.trans (hb6.mono hb5.size)
        go_wp2_with fail
        exact ⟨⟨i + 1, by omega, by go_num, by rw [hnx], hb7⟩, by simp [intOf]; omega⟩
      · obtain rfl : i = l.length := by omega
        go_wp2_with fail
        all_goals (go_ret2; refine ⟨?_, hb⟩; rw [← HR2.out]; simp [encM])
theorem encM_len (l : List (Bs × Int)) (hc : chkM l = true) : (encM l).length ≤ 200 := by
  simp only [chkM, Bool.and_eq_true, decide_eq_true_eq] at hc
  have h7 := hc.1.2
  have h := memsB_len l (fun i hi => (okM_at l [] hc.2 i hi).1) l.length (by omega)
  rw [List.take_length] at h
  have hn9 := num_len l.length
  simp only [encM, List.length_append]
  omega
/-- A set's sum. -/
def dgM (l : List (Bs × Int)) : Bs := if chkM l then tagP 4 (encM l) else []

set_option maxRecDepth 100000 in
set_option maxHeartbeats 1000000 in
theorem mdigest_any (v : Value) (l : List (Bs × Int)) (w : World) (hv : MS w v l) (hk : KT w) :
    Calls Tryz.prog 67 #[v] w fun e w' => e = .returned (.string ⟨List.toArray (dgM l)⟩) ∧ Below w.heap.size w w' := by
  generalize hd : dgM l = d
  have HD := Lib.hid hd
  clear hd
  obtain ⟨a, c, rfl⟩ := hv.form
  have hm := hv.small
  have hen := mencode_any _ l w hv
  cases hc : chkM l
  · rw [show encMR l = ([], 50) from by simp [encMR, hc]] at hen
    have HZ : Hid ([] = d) := Lib.hid (by rw [← HD.out]; simp [dgM, hc])
    have HE := Lib.hid hen
    clear hen hv HD hc
    go_enter Tryz.func67, Tryz.ntmps67
    go_wp2_with fail
    refine HE.out.mono ?_
    rintro e w1 ⟨rfl, hb⟩
    go_wp2_with fail
    all_goals (go_ret; refine ⟨?_, hb⟩; rw [← HZ.out]; rfl)
  · rw [show encMR l = (encM l, 0) from by simp [encMR, hc]] at hen
    have HZ : Hid (tagP 4 (encM l) = d) := Lib.hid (by rw [← HD.out]; simp [dgM, hc])
    have hl := encM_len l hc
    have HE := Lib.hid hen
    clear hen hv HD hc
    generalize encM l = t at *
    go_enter Tryz.func67, Tryz.ntmps67
    go_wp2_with fail
    refine HE.out.mono ?_
    rintro e w1 ⟨rfl, hb⟩
    go_wp2_with fail
    refine (digsum_ok 4 (by omega) (by omega) t (by omega) _ (hk.keep hb)).mono ?_
    rintro e w2 ⟨rfl, hb2⟩
    go_wp2_with fail
    all_goals (go_ret; refine ⟨?_, hb.trans (hb2.mono hb.size)⟩; rw [← HZ.out]; rfl)

end Go.Proofs.YthgjdaomcpinaaaGreatDoor

/- The set of bytes: the program's. -/
set_option linter.unusedSimpArgs false
set_option linter.unusedVariables false
namespace Go.Proofs.YthgjdaomcpinaaaGreatDoor
open Go.RowKit Pl

namespace Pl
/-- What is read behind the number: members, what is left, the code; behind i rounds. -/
def mSt (s : Bs) : Nat → List (Bs × Int) × Bs × Int
  | 0 => ([], (mNum s 0).2.1, (mNum s 0).2.2)
  | i + 1 => ((mSt s i).1 ++ [((mText (mSt s i).2.1 (mSt s i).2.2 6).1, ((mNum (mText (mSt s i).2.1 (mSt s i).2.2 6).2.1 (mText (mSt s i).2.1 (mSt s i).2.2 6).2.2).1 : Int))],
      (mNum (mText (mSt s i).2.1 (mSt s i).2.2 6).2.1 (mText (mSt s i).2.1 (mSt s i).2.2 6).2.2).2.1,
      (mNum (mText (mSt s i).2.1 (mSt s i).2.2 6).2.1 (mText (mSt s i).2.1 (mSt s i).2.2 6).2.2).2.2)
def stepM (x : List (Bs × Int) × Bs × Int) : List (Bs × Int) × Bs × Int :=
  (x.1 ++ [((mText x.2.1 x.2.2 6).1, ((mNum (mText x.2.1 x.2.2 6).2.1 (mText x.2.1 x.2.2 6).2.2).1 : Int))], (mNum (mText x.2.1 x.2.2 6).2.1 (mText x.2.1 x.2.2 6).2.2).2.1, (mNum (mText x.2.1 x.2.2 6).2.1 (mText x.2.1 x.2.2 6).2.2).2.2)
theorem mSt_succ (s : Bs) (i : Nat) : mSt s (i + 1) = stepM (mSt s i) := rfl
theorem mSt_len (s : Bs) : ∀ i, (mSt s i).1.length = i
  | 0 => rfl
  | i + 1 => by simp [mSt, mSt_len s i]
theorem mSt_bad (s : Bs) (i : Nat) (h : (mSt s i).2.2 ≠ 0) : ∀ j, (mSt s (i + j)).2.2 ≠ 0
  | 0 => h
  | j + 1 => by
    have h2 := mSt_bad s i h j
    rw [← Nat.add_assoc]
    simp only [mSt, mText, mNum, if_pos h2]
    exact h2
/-- The set of bytes. -/
def decM (s : Bs) : List (Bs × Int) × Int :=
  if mEnd (mSt s (mNum s 0).1).2.1 (mSt s (mNum s 0).1).2.2 = 0 ∧ chkM (mSt s (mNum s 0).1).1 = true then ((mSt s (mNum s 0).1).1, 0) else ([], 3)
theorem mEnd_bad (s : Bs) (c : Int) (h : c ≠ 0) : mEnd s c ≠ 0 := by
  unfold mEnd
  rw [if_neg (fun e => h e.1)]
  exact h
/-- Where the loop ends otherwise, nothing is told. -/
theorem decM_not (s : Bs) (i : Nat) (hi : i ≤ 8) (hn : i < (mNum s 0).1) (h : i = 8 ∨ (mSt s i).2.2 ≠ 0) : decM s = ([], 3) := by
  unfold decM
  rw [if_neg]
  rintro ⟨h1, h2⟩
  rcases h with rfl | h
  · simp only [chkM, Bool.and_eq_true, decide_eq_true_eq] at h2
    have := h2.1.2
    rw [mSt_len] at this
    omega
  · obtain ⟨j, hj⟩ : ∃ j, (mNum s 0).1 = i + j := ⟨(mNum s 0).1 - i, by omega⟩
    rw [hj] at h1
    exact mEnd_bad _ _ (mSt_bad s i h j) h1
end Pl

theorem MRow.mod {w w' : World} {b p : Nat} {v : Value} {l : List (Bs × Int)} (h : MRow w b v l) (hm : Mod [p] w w') (hp : p < b) : MRow w' b v l := by
  refine h.kept (fun k hk => hm.block k ?_ ?_)
  · rcases h.cells with ⟨rfl, _⟩ | ⟨g, cap, rfl, _, hg, _⟩
    · cases hk
    · cases hk; exact hg
  · have := h.own k hk
    simp; omega
theorem Rdr.below {B : Nat} {W w : World} {p : Nat} {s : Bs} {c : Int} (h : Rdr W p s c) (hb : Below B W w) (hp : p < B) : Rdr w p s c := by
  obtain ⟨l, a, h1, h2, h3, K⟩ := h
  exact ⟨l, a, h1, h2, h3, K.of_block (hb.block p hp) hb.size⟩
theorem MRow.low {w : World} {b c : Nat} {v : Value} {l : List (Bs × Int)} (h : MRow w b v l) (hc : c ≤ b) : MRow w c v l := by
  refine ⟨h.1, h.2.imp id ?_⟩
  rintro ⟨g, cap, cur, hv, h1, h2⟩
  exact ⟨g, cap, cur, hv, Nat.le_trans hc h1, h2⟩
theorem MRow.drewN {w : World} {b : Nat} {v : Value} {l : List (Bs × Int)} (h : MRow w b v l) (n : Nat) : MRow (w.drewN n) b v l := h
theorem MRow.alloc {w : World} {b : Nat} {v : Value} {l : List (Bs × Int)} (h : MRow w b v l) (o : Obj) : MRow (w.alloc o) b v l := by
  refine h.kept (fun k hk => Below.heap_alloc _ _ _ ?_)
  rcases h.cells with ⟨rfl, rfl⟩ | ⟨g, cap, rfl, _, hlt, _⟩
  · cases hk
  · cases hk; exact hlt
set_option maxRecDepth 100000 in
theorem rcode_any (s : Bs) (c : Int) (p : Nat) (w : World) (R : Rdr w p s c) :
    Calls Tryz.prog 109 #[.pointer (some ⟨p, 0, none⟩)] w fun e w' => e = .returned (.int .i64 (c)) ∧ ∃ n, w' = w.drewN n := by
  obtain ⟨l, a, h1, h2, rfl, B⟩ := id R
  obtain ⟨b1, b2, b3⟩ := id B
  go_enter Tryz.func109, Tryz.ntmps109
  go_wp2_with fail
  all_goals (go_ret; exact ⟨rfl, 0, rfl⟩)

set_option maxRecDepth 100000 in
set_option maxHeartbeats 400000 in
theorem mdecode_any (s : Bs) (hs : s.length ≤ 9223372036854775807) (w : World) :
    Calls Tryz.prog 56 #[.string ⟨List.toArray (s)⟩] w fun e w' => ∃ v, e = .returned (.tuple #[v, .int .i64 ((decM s).2)]) ∧ MRow w' w.heap.size v (decM s).1 ∧ Below w.heap.size w w' := by
  generalize hd : decM s = d
  have HD := Lib.hid hd
  clear hd
  go_enter Tryz.func56, Tryz.ntmps56
  go_wp2_with fail
  refine (readNew s _).mono ?_
  rintro e w1 ⟨rfl, rfl⟩
  have R0 : Rdr (w.alloc (.cells #[.string ⟨List.toArray (s)⟩, .int .i64 (0), .int .i64 (0)] 152)) w.heap.size s 0 := ⟨s, 0, hs, by omega, rfl, Blk.new w _ _⟩
  have hb0 : Below w.heap.size w (w.alloc (.cells #[.string ⟨List.toArray (s)⟩, .int .i64 (0), .int .i64 (0)] 152)) := Below.allocS (Below.refl _ _) _
  go_wp2_with fail
  refine (rnum_any s 0 _ _ R0).mono ?_
  rintro e w2 ⟨rfl, R2, m2⟩
  have hb2 := Below.mod hb0 m2 (by simp) (by simp)
  clear R0 hb0 m2
  have hmany : (mNum s 0).1 < 9223372036854775808 := by
    unfold mNum
    split
    · simp
    · split
      · simp
      · rename_i h; exact (take_le s (by simpa using h)).1
  generalize hm : (mNum s 0).1 = many at *
  have HM := Lib.hid hm
  clear hm
  have R3 : Rdr w2 w.heap.size (mSt s 0).2.1 (mSt s 0).2.2 := R2
  clear R2
  go_wp2_with fail
  go_loopw [5, 7] (fun s5 s7 wr => ∃ i : Nat, i ≤ 8 ∧ i ≤ many ∧ s7 = .int .i64 i ∧ MRow wr (w.heap.size + 1) s5 (mSt s i).1 ∧ w.heap.size + 1 ≤ wr.heap.size ∧ Rdr wr w.heap.size (mSt s i).2.1 (mSt s i).2.2 ∧ Below w.heap.size w wr) (fun _ s7 _ => 8 - (intOf s7).toNat)
  have hs2 : w.heap.size + 1 ≤ w2.heap.size := Nat.succ_le_of_lt R3.lt
  case atStart => exact ⟨0, by omega, by omega, rfl, MRow.nil _ _, hs2, R3, hb2⟩
  case round =>
    obtain ⟨i, hi, him, rfl, hR, hsz, R, hb⟩ := hrel
    obtain ⟨wq, h⟩ := Below.nm hb
    subst h
    have hll := mSt_len s i
    have hlow := hR.low (Nat.le_succ _)
    by_cases hlt : i < many
    · have HN := Lib.hid (fun h => decM_not s i hi (by rw [HM.out]; exact hlt) h)
      rw [HD.out] at HN
      by_cases h8 : i < 8
      · have hd1 : decide ((i : Int) < (many : Int)) = true := by simp; omega
        have hd2 : decide ((i : Int) ≤ 7) = true := by simp; omega
        have hnx := mSt_succ s i
        unfold stepM at hnx
        generalize mSt s i = x at *
        obtain ⟨l, t, c⟩ := x
        simp only at hR R hll hnx HN hlow
        go_wp2_with fail
        refine (rcode_any _ _ _ _ R).mono ?_
        rintro e w3 ⟨rfl, q, rfl⟩
        by_cases hc : c = 0
        · subst hc
          have R4 : Rdr (wq.drewN q) w.heap.size t 0 := R.drewN q
          go_wp2_with fail
          refine (rtext_any t 0 6 _ _ R4).mono ?_
          rintro e w5 ⟨rfl, R5, m5⟩
          have hR5 := (hR.drewN q).mod m5 (Nat.lt_succ_self _)
          have hb5 := Below.mod (below_drewN hb q) m5 (by simpa using hb.size) (by simp)
          have hsz5 := m5.size
          clear R4 R m5
          generalize mText t 0 6 = y at *
          obtain ⟨n, t2, c2⟩ := y
          simp only at R5 hnx
          go_wp2_with fail
          refine (rnum_any t2 c2 _ _ R5).mono ?_
          rintro e w6 ⟨rfl, R6, m6⟩
          have hR6 := hR5.mod m6 (Nat.lt_succ_self _)
          have hb6 := Below.mod hb5 m6 hb5.size (by simp)
          have hsz6 := m6.size
          clear R5 m6 hR5 hb5
          generalize mNum t2 c2 = z at *
          obtain ⟨k, t3, c3⟩ := z
          simp only at R6 hnx
          have hsz7 : w.heap.size + 1 ≤ w6.heap.size := by simp at hsz5; omega
          go_wp2_with (at_builtin; refine wpList_appM rfl (.tmp 26) (.tmp 32) rfl (w.heap.size + 1) _ l rfl (hR6.alloc _) w6.heap.size 0 1 1 [(n, (k : Int))] rfl rfl (msrc1 _ _ _ _) (by simp; omega) (by simp; omega) ?_; rintro v' w7 hS7 hb7)
          have R7 := (R6.alloc (.cells #[.string ⟨List.toArray (n)⟩, .int .i64 (k)] 130)).below hb7 (Nat.lt_succ_self _)
          have hb8 := (Below.allocS hb6 (.cells #[.string ⟨List.toArray (n)⟩, .int .i64 (k)] 130)).trans (hb7.mono (Nat.le_succ _))
          have hsz8 := hb7.size
          refine ⟨⟨i + 1, by omega, by omega, by go_num, ?_, by simp at hsz8; omega, ?_, hb8⟩, by simp [intOf]; omega⟩
          · rw [hnx]; exact hS7
          · rw [hnx]; exact R7
        · have hdd := HN.out (.inr hc)
          subst hdd
          have R4 : Rdr (wq.drewN q) w.heap.size t c := R.drewN q
          have hc2 : (c == 0) = false := by simpa using hc
          go_wp2_with fail
          refine (rend_any t c _ _ R4).mono ?_
          rintro e w5 ⟨rfl, m5⟩
          have hb5 := Below.mod (below_drewN hb q) m5 (by simpa using hb.size) (by simp)
          have hme : (mEnd t c != 0) = true := by simpa using mEnd_bad t c hc
          go_wp2_with fail
          all_goals (go_ret2; exact ⟨.slice none 0 0, rfl, MRow.nil _ _, hb5⟩)
      · have h88 : i = 8 := by omega
        have hdd := HN.out (.inl h88)
        subst hdd
        have hd1 : decide ((i : Int) < (many : Int)) = true := by simp; omega
        have hd2 : decide ((i : Int) ≤ 7) = false := by simp; omega
        clear HN
        generalize mSt s i = x at *
        obtain ⟨l, t, c⟩ := x
        simp only at hR R hll hlow
        obtain ⟨va, vc, rfl⟩ := hR.form
        have hlm : ((l.length : Int) != (many : Int)) = true := by simp; omega
        clear h88
        go_wp2_with fail
        refine (rend_any t c _ _ R).mono ?_
        rintro e w5 ⟨rfl, m5⟩
        have hb5 := Below.mod hb m5 hb.size (by simp)
        cases hme : (mEnd t c != 0)
        · go_wp2_with fail
          all_goals (go_ret2; exact ⟨.slice none 0 0, rfl, MRow.nil _ _, hb5⟩)
        · go_wp2_with fail
          all_goals (go_ret2; exact ⟨.slice none 0 0, rfl, MRow.nil _ _, hb5⟩)
    · obtain rfl : i = many := by omega
      have hd1 : decide ((i : Int) < (i : Int)) = false := by simp
      have HD2 : Hid ((if mEnd (mSt s i).2.1 (mSt s i).2.2 = 0 ∧ chkM (mSt s i).1 = true then ((mSt s i).1, (0 : Int)) else ([], 3)) = d) := Lib.hid (by
        rw [← HD.out]; unfold decM; rw [HM.out])
      clear HD HM
      generalize mSt s i = x at *
      obtain ⟨l, t, c⟩ := x
      simp only at hR R hll hlow HD2
      obtain ⟨va, vc, rfl⟩ := hR.form
      have hlm : ((l.length : Int) != (i : Int)) = false := by simp; omega
      clear hll
      go_wp2_with fail
      refine (rend_any t c _ _ R).mono ?_
      rintro e w5 ⟨rfl, m5⟩
      have hb5 := Below.mod hb m5 hb.size (by simp)
      have hR5 := hR.mod m5 (Nat.lt_succ_self _)
      by_cases hme : mEnd t c = 0
      · rw [hme]
        have hchk := mcheck_any _ l _ hR5.ms
        cases hc : chkM l
        · rw [hc] at hchk
          have hdd : ([], (3 : Int)) = d := by rw [← HD2.out, if_neg]; rw [hc]; simp
          subst hdd
          have HC := Lib.hid hchk
          clear hchk HD2 hc hme
          go_wp2_with fail
          refine HC.out.mono ?_
          rintro e w6 ⟨rfl, hb6⟩
          unfold setI
          go_wp2_with fail
          all_goals (go_ret2; exact ⟨.slice none 0 0, rfl, MRow.nil _ _, hb5.trans (hb6.mono hb5.size)⟩)
        · rw [hc] at hchk
          have hdd : (l, (0 : Int)) = d := by rw [← HD2.out, if_pos ⟨hme, hc⟩]
          subst hdd
          have HC := Lib.hid hchk
          clear hchk HD2 hc hme
          go_wp2_with fail
          refine HC.out.mono ?_
          rintro e w6 ⟨rfl, hb6⟩
          unfold setI
          go_wp2_with fail
          all_goals (go_ret2; exact ⟨_, rfl, (hR5.keep hb6).low (Nat.le_succ _), hb5.trans (hb6.mono hb5.size)⟩)
      · have hdd : ([], (3 : Int)) = d := by rw [← HD2.out, if_neg]; exact fun h => hme h.1
        subst hdd
        have hme2 : (mEnd t c != 0) = true := by simpa using hme
        clear HD2
        go_wp2_with fail
        all_goals (go_ret2; exact ⟨.slice none 0 0, rfl, MRow.nil _ _, hb5⟩)

end Go.Proofs.YthgjdaomcpinaaaGreatDoor

/- Layer 8, plain: the program's and the document's answer to 'may a node be' are one. -/
set_option linter.unusedSimpArgs false
set_option linter.unusedVariables false
namespace Go.Proofs.YthgjdaomcpinaaaGreatDoor
namespace Pl

theorem kidsTo_nil {kid : Nat → Bs} : ∀ n, (∀ i, i < n → kid i = []) → kidsTo kid n = []
  | 0, _ => rfl
  | n + 1, h => by rw [kidsTo_succ, kidsTo_nil n (fun i hi => h i (by omega)), h n (by omega)]; rfl
theorem kidsTo_mono (kid : Nat → Bs) (n : Nat) : (kidsTo kid n).length ≤ (kidsTo kid (n + 1)).length := by
  rw [kidsTo_succ]; simp
theorem kidsTo_le (kid : Nat → Bs) {n m : Nat} (h : n ≤ m) : (kidsTo kid n).length ≤ (kidsTo kid m).length := by
  induction h with
  | refl => exact Nat.le_refl _
  | step _ ih => exact Nat.le_trans ih (kidsTo_mono kid _)
theorem none_iff (kid : Nat → Bs) : noKids kid = true ↔ (kidsF kid).length = 0 := by
  constructor
  · intro h
    have h1 : kidL kid = kidL noK := by
      simp only [noKids, sameL, decide_eq_true_eq] at h
      rw [h]; rfl
    unfold kidsF
    rw [kidsTo_nil 16 (fun i hi => kidL_eq h1 i hi)]
    rfl
  · intro h
    have h1 : ∀ i, i < 16 → kid i = [] := fun i hi => by
      by_cases he : kid i = []
      · exact he
      · exfalso
        have := kidsTo_le kid (show i + 1 ≤ 16 by omega)
        rw [kidsTo_succ, if_neg he] at this
        simp [kidsF] at h this
        rw [h] at this
        simp at this
    have h2 : kidL kid = kidL noK := kidL_of (fun i hi => h1 i hi)
    simp only [noKids, sameL, decide_eq_true_eq]
    rw [h2]; rfl

theorem kidsTo_one {kid : Nat → Bs} (h0 : kid 0 ≠ []) : ∀ n, n ≤ 15 → (∀ i, 1 ≤ i → i < n + 1 → kid i = []) → kidsTo kid (n + 1) = [kid 0]
  | 0, _, _ => by rw [kidsTo_succ, if_neg h0]; rfl
  | n + 1, hn, h => by rw [kidsTo_succ, kidsTo_one h0 n (by omega) (fun i h1 h2 => h i h1 (by omega)), h (n + 1) (by omega) (by omega)]; rfl
theorem one_rest {kid : Nat → Bs} (h0 : kid 0 ≠ []) (h : (kidsF kid).length = 1) (i : Nat) (h1 : 1 ≤ i) (hi : i < 16) : kid i = [] := by
  by_cases he : kid i = []
  · exact he
  · exfalso
    have a := kidsTo_le kid (show i + 1 ≤ 16 by omega)
    have b := kidsTo_le kid (show 0 + 1 ≤ i by omega)
    rw [kidsTo_succ, if_neg h0] at b
    rw [kidsTo_succ, if_neg he] at a
    have h' : (kidsTo kid 16).length = 1 := h
    simp at a b
    omega
theorem one_iff (kid : Nat → Bs) : (oneKidX kid (kid 0) && all32 [kid 0]) = true ↔ all32 (kidsF kid) = true ∧ (kidsF kid).length = 1 ∧ kid 0 ≠ [] := by
  rw [Bool.and_eq_true]
  constructor
  · rintro ⟨h, h32⟩
    have h1 : kidL kid = kidL (upd noK 0 (kid 0)) := by
      simp only [oneKidX, sameL, decide_eq_true_eq] at h
      rw [h]; rfl
    have h0 : kid 0 ≠ [] := fun e => by rw [e] at h32; exact absurd h32 (by decide)
    have hf : kidsF kid = [kid 0] := kidsTo_one h0 15 (by omega) (fun i h2 h3 => by
      have := kidL_eq h1 i (by omega)
      rw [this]; unfold upd; rw [if_neg (by omega)]; rfl)
    rw [hf]
    exact ⟨h32, rfl, h0⟩
  · rintro ⟨h32, hl, h0⟩
    have hr := one_rest h0 hl
    have hf : kidsF kid = [kid 0] := kidsTo_one h0 15 (by omega) (fun i h2 h3 => hr i h2 (by omega))
    rw [hf] at h32
    refine ⟨?_, h32⟩
    have h2 : kidL kid = kidL (upd noK 0 (kid 0)) := kidL_of (fun i hi => by
      unfold upd
      by_cases h3 : i = 0
      · subst h3; rw [if_pos rfl]
      · rw [if_neg h3]; exact hr i (by omega) hi)
    simp only [oneKidX, sameL, decide_eq_true_eq]
    rw [h2]; rfl
theorem all32_nil {l : List Bs} (h : l.length = 0) : all32 l = true := by
  rw [List.length_eq_zero_iff.1 h]; rfl
theorem fine_chk (kind : Int) (path val : Bs) (kid : Nat → Bs) : fineR kind path val kid = chk kind path val kid := by
  rw [Bool.eq_iff_iff]
  unfold fineR chk
  by_cases k1 : kind = 1
  · simp only [if_pos k1]
    have hn := none_iff kid
    constructor
    · intro h
      split at h
      · cases h
      · split at h
        · cases h
        · rename_i ha hb
          simp at h hb
          simp [pathOk, hn.2 (by simp [h.1])]
          refine ⟨⟨⟨?_, ?_⟩, h.2⟩, ?_⟩
          · cases hf : fit path <;> simp [hf] at hb ⊢
          · omega
          · omega
    · intro h
      simp [pathOk] at h
      have hl := hn.1 h.1.1.1
      rw [if_neg (by simp [all32_nil hl]), if_neg (by simp [h.1.1.2.1]; omega)]
      simp [hl, h.1.2]
  · by_cases k2 : kind = 2
    · simp only [if_neg k1, if_pos k2]
      have ho := one_iff kid
      constructor
      · intro h
        split at h
        · cases h
        · split at h
          · cases h
          · rename_i ha hb
            simp at h hb ha
            have ho2 := ho.2 ⟨ha, h.1.1.1, h.1.1.2⟩
            rw [Bool.and_eq_true] at ho2
            simp [pathOk, ho2.1, ho2.2, h.2]
            refine ⟨⟨?_, by have := h.1.2; omega⟩, ?_⟩
            · cases hf : fit path <;> simp [hf] at hb ⊢
            · omega
      · intro h
        simp only [pathOk, Bool.and_eq_true] at h
        obtain ⟨⟨⟨h1, h2⟩, ⟨⟨h3, h4⟩, h5⟩⟩, h6⟩ := h
        obtain ⟨q1, q2, q3⟩ := ho.1 (by rw [h1, h2]; rfl)
        have hv : val = [] := by simpa using h6
        subst hv
        have h4' : 1 ≤ path.length := by
          have h4i : (1 : Int) ≤ (path.length : Int) := by simpa using h4
          omega
        have h5' : path.length ≤ 16 := by simpa using h5
        rw [if_neg (by simp [q1]), if_neg (by simp [h3]; omega)]
        simp [q2, q3, h4']
    · by_cases k3 : kind = 3
      · simp only [if_neg k1, if_neg k2, if_pos k3]
        constructor
        · intro h
          split at h
          · cases h
          · split at h
            · cases h
            · rename_i ha hb
              have ha' : all32 (kidsF kid) = true := by simpa using ha
              simp only [not_or] at hb
              obtain ⟨_, _, hv⟩ := hb
              simp at h
              obtain ⟨hp, h⟩ := h
              subst hp
              simp only [ha', Bool.and_eq_true, decide_eq_true_eq, List.isEmpty_nil]
              refine ⟨⟨⟨by simp, by simp⟩, ?_⟩, by omega⟩
              rcases h with h | ⟨h, h2⟩
              · omega
              · simp [h, h2]
        · intro h
          simp only [Bool.and_eq_true, decide_eq_true_eq] at h
          obtain ⟨⟨⟨h1, h2⟩, h3⟩, h4⟩ := h
          have hp : path = [] := by simpa using h1
          subst hp
          rw [if_neg (by simp [h2]), if_neg (by simp [fit]; omega)]
          by_cases hv : val.isEmpty = true
          · rw [if_pos hv] at h3
            simp; omega
          · rw [if_neg hv] at h3
            simp at hv
            simp [hv]; omega
      · simp only [if_neg k1, if_neg k2, if_neg k3]
        constructor
        · intro h
          split at h
          · cases h
          · split at h <;> cases h
        · intro h; cases h

end Pl
end Go.Proofs.YthgjdaomcpinaaaGreatDoor
