/- MDec, Fine, Eats. -/
import Derived.Test.YtaedgfnfkacimaaDoorMg2
import Derived.Test.YtaedgfnfkacimaaDoorMg7
import Derived.Test.YtaedgfnfkacimaaDoorMg10
import Derived.Test.YtaedgfnfkacimaaDoorMg12
set_option linter.unnecessarySimpa false

/- The set of bytes: the program's. -/
set_option linter.unusedSimpArgs false
set_option linter.unusedVariables false
namespace Go.Proofs.YtaedgfnfkacimaaDoor
open Go.RowKit Pl

namespace Pl
/-- What is read behind the number: members, what is left, the code; behind i rounds. -/
def mSt (s : Bs) : Nat → List (Bs × Int) × Bs × Int
  | 0 => ([], (mNum s 0).2.1, (mNum s 0).2.2)
  | i + 1 => ((mSt s i).1 ++ [((mText (mSt s i).2.1 (mSt s i).2.2 6).1, ((mNum (mText (mSt s i).2.1 (mSt s i).2.2 6).2.1 (mText (mSt s i).2.1 (mSt s i).2.2 6).2.2).1 : Int))],
      (mNum (mText (mSt s i).2.1 (mSt s i).2.2 6).2.1 (mText (mSt s i).2.1 (mSt s i).2.2 6).2.2).2.1,
      (mNum (mText (mSt s i).2.1 (mSt s i).2.2 6).2.1 (mText (mSt s i).2.1 (mSt s i).2.2 6).2.2).2.2)
def stepM (x : List (Bs × Int) × Bs × Int) : List (Bs × Int) × Bs × Int :=
  (x.1 ++ [((mText x.2.1 x.2.2 6).1, ((mNum (mText x.2.1 x.2.2 6).2.1 (mText x.2.1 x.2.2 6).2.2).1 : Int))], (mNum (mText x.2.1 x.2.2 6).2.1 (mText x.2.1 x.2.2 6).2.2).2.1, (mNum (mText x.2.1 x.2.2 6).2.1 (mText x.2.1 x.2.2 6).2.2).2.2)
theorem mSt_succ (s : Bs) (i : Nat) : mSt s (i + 1) = stepM (mSt s i) := rfl
theorem mSt_len (s : Bs) : ∀ i, (mSt s i).1.length = i
  | 0 => rfl
  | i + 1 => by simp [mSt, mSt_len s i]
theorem mSt_bad (s : Bs) (i : Nat) (h : (mSt s i).2.2 ≠ 0) : ∀ j, (mSt s (i + j)).2.2 ≠ 0
  | 0 => h
  | j + 1 => by
    have h2 := mSt_bad s i h j
    rw [← Nat.add_assoc]
    simp only [mSt, mText, mNum, if_pos h2]
    exact h2
/-- The set of bytes. -/
def decM (s : Bs) : List (Bs × Int) × Int :=
  if mEnd (mSt s (mNum s 0).1).2.1 (mSt s (mNum s 0).1).2.2 = 0 ∧ chkM (mSt s (mNum s 0).1).1 = true then ((mSt s (mNum s 0).1).1, 0) else ([], 3)
theorem mEnd_bad (s : Bs) (c : Int) (h : c ≠ 0) : mEnd s c ≠ 0 := by
  unfold mEnd
  rw [if_neg (fun e => h e.1)]
  exact h
/-- Where the loop ends otherwise, nothing is told. -/
theorem decM_not (s : Bs) (i : Nat) (hi : i ≤ 8) (hn : i < (mNum s 0).1) (h : i = 8 ∨ (mSt s i).2.2 ≠ 0) : decM s = ([], 3) := by
  unfold decM
  rw [if_neg]
  rintro ⟨h1, h2⟩
  rcases h with rfl | h
  · simp only [chkM, Bool.and_eq_true, decide_eq_true_eq] at h2
    have := h2.1.2
    rw [mSt_len] at this
    omega
  · obtain ⟨j, hj⟩ : ∃ j, (mNum s 0).1 = i + j := ⟨(mNum s 0).1 - i, by omega⟩
    rw [hj] at h1
    exact mEnd_bad _ _ (mSt_bad s i h j) h1
end Pl

theorem MRow.mod {w w' : World} {b p : Nat} {v : Value} {l : List (Bs × Int)} (h : MRow w b v l) (hm : Mod [p] w w') (hp : p < b) : MRow w' b v l := by
  refine h.kept (fun k hk => hm.block k ?_ ?_)
  · rcases h.cells with ⟨rfl, _⟩ | ⟨g, cap, rfl, _, hg, _⟩
    · cases hk
    · cases hk; exact hg
  · have := h.own k hk
    simp; omega
theorem Rdr.below {B : Nat} {W w : World} {p : Nat} {s : Bs} {c : Int} (h : Rdr W p s c) (hb : Below B W w) (hp : p < B) : Rdr w p s c := by
  obtain ⟨l, a, h1, h2, h3, K⟩ := h
  exact ⟨l, a, h1, h2, h3, K.of_block (hb.block p hp) hb.size⟩
theorem MRow.low {w : World} {b c : Nat} {v : Value} {l : List (Bs × Int)} (h : MRow w b v l) (hc : c ≤ b) : MRow w c v l := by
  refine ⟨h.1, h.2.imp id ?_⟩
  rintro ⟨g, cap, cur, hv, h1, h2⟩
  exact ⟨g, cap, cur, hv, Nat.le_trans hc h1, h2⟩
theorem MRow.drewN {w : World} {b : Nat} {v : Value} {l : List (Bs × Int)} (h : MRow w b v l) (n : Nat) : MRow (w.drewN n) b v l := h
theorem MRow.alloc {w : World} {b : Nat} {v : Value} {l : List (Bs × Int)} (h : MRow w b v l) (o : Obj) : MRow (w.alloc o) b v l := by
  refine h.kept (fun k hk => Below.heap_alloc _ _ _ ?_)
  rcases h.cells with ⟨rfl, rfl⟩ | ⟨g, cap, rfl, _, hlt, _⟩
  · cases hk
  · cases hk; exact hlt
set_option maxRecDepth 100000 in
theorem rcode_any (s : Bs) (c : Int) (p : Nat) (w : World) (R : Rdr w p s c) :
    Calls Tryd.prog 45 #[.pointer (some ⟨p, 0, none⟩)] w fun e w' => e = .returned (.int .i64 (c)) ∧ ∃ n, w' = w.drewN n := by
  obtain ⟨l, a, h1, h2, rfl, B⟩ := id R
  obtain ⟨b1, b2, b3⟩ := id B
  go_enter Tryd.func45, Tryd.ntmps45
  go_wp2_with fail
  all_goals (go_ret; exact ⟨rfl, 0, rfl⟩)

set_option maxRecDepth 100000 in
set_option maxHeartbeats 400000 in
theorem mdecode_any (s : Bs) (hs : s.length ≤ 9223372036854775807) (w : World) :
    Calls Tryd.prog 20 #[.string ⟨List.toArray (s)⟩] w fun e w' => ∃ v, e = .returned (.tuple #[v, .int .i64 ((decM s).2)]) ∧ MRow w' w.heap.size v (decM s).1 ∧ Below w.heap.size w w' := by
  generalize hd : decM s = d
  have HD := Lib.hid hd
  clear hd
  go_enter Tryd.func20, Tryd.ntmps20
  go_wp2_with fail
  refine (readNew s _).mono ?_
  rintro e w1 ⟨rfl, rfl⟩
  have R0 : Rdr (w.alloc (.cells #[.string ⟨List.toArray (s)⟩, .int .i64 (0), .int .i64 (0)] 88)) w.heap.size s 0 := ⟨s, 0, hs, by omega, rfl, Blk.new w _ _⟩
  have hb0 : Below w.heap.size w (w.alloc (.cells #[.string ⟨List.toArray (s)⟩, .int .i64 (0), .int .i64 (0)] 88)) := Below.allocS (Below.refl _ _) _
  go_wp2_with fail
  refine (rnum_any s 0 _ _ R0).mono ?_
  rintro e w2 ⟨rfl, R2, m2⟩
  have hb2 := Below.mod hb0 m2 (by simp) (by simp)
  clear R0 hb0 m2
  have hmany : (mNum s 0).1 < 9223372036854775808 := by
    unfold mNum
    split
    · simp
    · split
      · simp
      · rename_i h; exact (take_le s (by simpa using h)).1
  generalize hm : (mNum s 0).1 = many at *
  have HM := Lib.hid hm
  clear hm
  have R3 : Rdr w2 w.heap.size (mSt s 0).2.1 (mSt s 0).2.2 := R2
  clear R2
  go_wp2_with fail
  go_loopw [5, 7] (fun s5 s7 wr => ∃ i : Nat, i ≤ 8 ∧ i ≤ many ∧ s7 = .int .i64 i ∧ MRow wr (w.heap.size + 1) s5 (mSt s i).1 ∧ w.heap.size + 1 ≤ wr.heap.size ∧ Rdr wr w.heap.size (mSt s i).2.1 (mSt s i).2.2 ∧ Below w.heap.size w wr) (fun _ s7 _ => 8 - (intOf s7).toNat)
  have hs2 : w.heap.size + 1 ≤ w2.heap.size := Nat.succ_le_of_lt R3.lt
  case atStart => exact ⟨0, by omega, by omega, rfl, MRow.nil _ _, hs2, R3, hb2⟩
  case round =>
    obtain ⟨i, hi, him, rfl, hR, hsz, R, hb⟩ := hrel
    obtain ⟨wq, h⟩ := Below.nm hb
    subst h
    have hll := mSt_len s i
    have hlow := hR.low (Nat.le_succ _)
    by_cases hlt : i < many
    · have HN := Lib.hid (fun h => decM_not s i hi (by rw [HM.out]; exact hlt) h)
      rw [HD.out] at HN
      by_cases h8 : i < 8
      · have hd1 : decide ((i : Int) < (many : Int)) = true := by simp; omega
        have hd2 : decide ((i : Int) ≤ 7) = true := by simp; omega
        have hnx := mSt_succ s i
        unfold stepM at hnx
        generalize mSt s i = x at *
        obtain ⟨l, t, c⟩ := x
        simp only at hR R hll hnx HN hlow
        go_wp2_with fail
        refine (rcode_any _ _ _ _ R).mono ?_
        rintro e w3 ⟨rfl, q, rfl⟩
        by_cases hc : c = 0
        · subst hc
          have R4 : Rdr (wq.drewN q) w.heap.size t 0 := R.drewN q
          go_wp2_with fail
          refine (rtext_any t 0 6 _ _ R4).mono ?_
          rintro e w5 ⟨rfl, R5, m5⟩
          have hR5 := (hR.drewN q).mod m5 (Nat.lt_succ_self _)
          have hb5 := Below.mod (below_drewN hb q) m5 (by simpa using hb.size) (by simp)
          have hsz5 := m5.size
          clear R4 R m5
          generalize mText t 0 6 = y at *
          obtain ⟨n, t2, c2⟩ := y
          simp only at R5 hnx
          go_wp2_with fail
          refine (rnum_any t2 c2 _ _ R5).mono ?_
          rintro e w6 ⟨rfl, R6, m6⟩
          have hR6 := hR5.mod m6 (Nat.lt_succ_self _)
          have hb6 := Below.mod hb5 m6 hb5.size (by simp)
          have hsz6 := m6.size
          clear R5 m6 hR5 hb5
          generalize mNum t2 c2 = z at *
          obtain ⟨k, t3, c3⟩ := z
          simp only at R6 hnx
          have hsz7 : w.heap.size + 1 ≤ w6.heap.size := by simp at hsz5; omega
          go_wp2_with (at_builtin; refine wpList_appM rfl (.tmp 26) (.tmp 32) rfl (w.heap.size + 1) _ l rfl (hR6.alloc _) w6.heap.size 0 1 1 [(n, (k : Int))] rfl rfl (msrc1 _ _ _ _) (by simp; omega) (by simp; omega) ?_; rintro v' w7 hS7 hb7)
          have R7 := (R6.alloc (.cells #[.string ⟨List.toArray (n)⟩, .int .i64 (k)] 85)).below hb7 (Nat.lt_succ_self _)
          have hb8 := (Below.allocS hb6 (.cells #[.string ⟨List.toArray (n)⟩, .int .i64 (k)] 85)).trans (hb7.mono (Nat.le_succ _))
          have hsz8 := hb7.size
          refine ⟨⟨i + 1, by omega, by omega, by go_num, ?_, by simp at hsz8; omega, ?_, hb8⟩, by simp [intOf]; omega⟩
          · rw [hnx]; exact hS7
          · rw [hnx]; exact R7
        · have hdd := HN.out (.inr hc)
          subst hdd
          have R4 : Rdr (wq.drewN q) w.heap.size t c := R.drewN q
          have hc2 : (c == 0) = false := by simpa using hc
          go_wp2_with fail
          refine (rend_any t c _ _ R4).mono ?_
          rintro e w5 ⟨rfl, m5⟩
          have hb5 := Below.mod (below_drewN hb q) m5 (by simpa using hb.size) (by simp)
          have hme : (mEnd t c != 0) = true := by simpa using mEnd_bad t c hc
          go_wp2_with fail
          all_goals (go_ret2; exact ⟨.slice none 0 0, rfl, MRow.nil _ _, hb5⟩)
      · have h88 : i = 8 := by omega
        have hdd := HN.out (.inl h88)
        subst hdd
        have hd1 : decide ((i : Int) < (many : Int)) = true := by simp; omega
        have hd2 : decide ((i : Int) ≤ 7) = false := by simp; omega
        clear HN
        generalize mSt s i = x at *
        obtain ⟨l, t, c⟩ := x
        simp only at hR R hll hlow
        obtain ⟨va, vc, rfl⟩ := hR.form
        have hlm : ((l.length : Int) != (many : Int)) = true := by simp; omega
        clear h88
        go_wp2_with fail
        refine (rend_any t c _ _ R).mono ?_
        rintro e w5 ⟨rfl, m5⟩
        have hb5 := Below.mod hb m5 hb.size (by simp)
        cases hme : (mEnd t c != 0)
        · go_wp2_with fail
          all_goals (go_ret2; exact ⟨.slice none 0 0, rfl, MRow.nil _ _, hb5⟩)
        · go_wp2_with fail
          all_goals (go_ret2; exact ⟨.slice none 0 0, rfl, MRow.nil _ _, hb5⟩)
    · obtain rfl : i = many := by omega
      have hd1 : decide ((i : Int) < (i : Int)) = false := by simp
      have HD2 : Hid ((if mEnd (mSt s i).2.1 (mSt s i).2.2 = 0 ∧ chkM (mSt s i).1 = true then ((mSt s i).1, (0 : Int)) else ([], 3)) = d) := Lib.hid (by
        rw [← HD.out]; unfold decM; rw [HM.out])
      clear HD HM
      generalize mSt s i = x at *
      obtain ⟨l, t, c⟩ := x
      simp only at hR R hll hlow HD2
      obtain ⟨va, vc, rfl⟩ := hR.form
      have hlm : ((l.length : Int) != (i : Int)) = false := by simp; omega
      clear hll
      go_wp2_with fail
      refine (rend_any t c _ _ R).mono ?_
      rintro e w5 ⟨rfl, m5⟩
      have hb5 := Below.mod hb m5 hb.size (by simp)
      have hR5 := hR.mod m5 (Nat.lt_succ_self _)
      by_cases hme : mEnd t c = 0
      · rw [hme]
        have hchk := mcheck_any _ l _ hR5.ms
        cases hc : chkM l
        · rw [hc] at hchk
          have hdd : ([], (3 : Int)) = d := by rw [← HD2.out, if_neg]; rw [hc]; simp
          subst hdd
          have HC := Lib.hid hchk
          clear hchk HD2 hc hme
          go_wp2_with fail
          refine HC.out.mono ?_
          rintro e w6 ⟨rfl, hb6⟩
          unfold setI
          go_wp2_with fail
          all_goals (go_ret2; exact ⟨.slice none 0 0, rfl, MRow.nil _ _, hb5.trans (hb6.mono hb5.size)⟩)
        · rw [hc] at hchk
          have hdd : (l, (0 : Int)) = d := by rw [← HD2.out, if_pos ⟨hme, hc⟩]
          subst hdd
          have HC := Lib.hid hchk
          clear hchk HD2 hc hme
          go_wp2_with fail
          refine HC.out.mono ?_
          rintro e w6 ⟨rfl, hb6⟩
          unfold setI
          go_wp2_with fail
          all_goals (go_ret2; exact ⟨_, rfl, (hR5.keep hb6).low (Nat.le_succ _), hb5.trans (hb6.mono hb5.size)⟩)
      · have hdd : ([], (3 : Int)) = d := by rw [← HD2.out, if_neg]; exact fun h => hme h.1
        subst hdd
        have hme2 : (mEnd t c != 0) = true := by simpa using hme
        clear HD2
        go_wp2_with fail
        all_goals (go_ret2; exact ⟨.slice none 0 0, rfl, MRow.nil _ _, hb5⟩)

end Go.Proofs.YtaedgfnfkacimaaDoor

/- Layer 8, plain: the program's and the document's answer to 'may a node be' are one. -/
set_option linter.unusedSimpArgs false
set_option linter.unusedVariables false
namespace Go.Proofs.YtaedgfnfkacimaaDoor
namespace Pl

theorem kidsTo_nil {kid : Nat → Bs} : ∀ n, (∀ i, i < n → kid i = []) → kidsTo kid n = []
  | 0, _ => rfl
  | n + 1, h => by rw [kidsTo_succ, kidsTo_nil n (fun i hi => h i (by omega)), h n (by omega)]; rfl
theorem kidsTo_mono (kid : Nat → Bs) (n : Nat) : (kidsTo kid n).length ≤ (kidsTo kid (n + 1)).length := by
  rw [kidsTo_succ]; simp
theorem kidsTo_le (kid : Nat → Bs) {n m : Nat} (h : n ≤ m) : (kidsTo kid n).length ≤ (kidsTo kid m).length := by
  induction h with
  | refl => exact Nat.le_refl _
  | step _ ih => exact Nat.le_trans ih (kidsTo_mono kid _)
theorem none_iff (kid : Nat → Bs) : noKids kid = true ↔ (kidsF kid).length = 0 := by
  constructor
  · intro h
    have h1 : kidL kid = kidL noK := by
      simp only [noKids, sameL, decide_eq_true_eq] at h
      rw [h]; rfl
    unfold kidsF
    rw [kidsTo_nil 16 (fun i hi => kidL_eq h1 i hi)]
    rfl
  · intro h
    have h1 : ∀ i, i < 16 → kid i = [] := fun i hi => by
      by_cases he : kid i = []
      · exact he
      · exfalso
        have := kidsTo_le kid (show i + 1 ≤ 16 by omega)
        rw [kidsTo_succ, if_neg he] at this
        simp [kidsF] at h this
        rw [h] at this
        simp at this
    have h2 : kidL kid = kidL noK := kidL_of (fun i hi => h1 i hi)
    simp only [noKids, sameL, decide_eq_true_eq]
    rw [h2]; rfl

theorem kidsTo_one {kid : Nat → Bs} (h0 : kid 0 ≠ []) : ∀ n, n ≤ 15 → (∀ i, 1 ≤ i → i < n + 1 → kid i = []) → kidsTo kid (n + 1) = [kid 0]
  | 0, _, _ => by rw [kidsTo_succ, if_neg h0]; rfl
  | n + 1, hn, h => by rw [kidsTo_succ, kidsTo_one h0 n (by omega) (fun i h1 h2 => h i h1 (by omega)), h (n + 1) (by omega) (by omega)]; rfl
theorem one_rest {kid : Nat → Bs} (h0 : kid 0 ≠ []) (h : (kidsF kid).length = 1) (i : Nat) (h1 : 1 ≤ i) (hi : i < 16) : kid i = [] := by
  by_cases he : kid i = []
  · exact he
  · exfalso
    have a := kidsTo_le kid (show i + 1 ≤ 16 by omega)
    have b := kidsTo_le kid (show 0 + 1 ≤ i by omega)
    rw [kidsTo_succ, if_neg h0] at b
    rw [kidsTo_succ, if_neg he] at a
    have h' : (kidsTo kid 16).length = 1 := h
    simp at a b
    omega
theorem one_iff (kid : Nat → Bs) : (oneKidX kid (kid 0) && all32 [kid 0]) = true ↔ all32 (kidsF kid) = true ∧ (kidsF kid).length = 1 ∧ kid 0 ≠ [] := by
  rw [Bool.and_eq_true]
  constructor
  · rintro ⟨h, h32⟩
    have h1 : kidL kid = kidL (upd noK 0 (kid 0)) := by
      simp only [oneKidX, sameL, decide_eq_true_eq] at h
      rw [h]; rfl
    have h0 : kid 0 ≠ [] := fun e => by rw [e] at h32; exact absurd h32 (by decide)
    have hf : kidsF kid = [kid 0] := kidsTo_one h0 15 (by omega) (fun i h2 h3 => by
      have := kidL_eq h1 i (by omega)
      rw [this]; unfold upd; rw [if_neg (by omega)]; rfl)
    rw [hf]
    exact ⟨h32, rfl, h0⟩
  · rintro ⟨h32, hl, h0⟩
    have hr := one_rest h0 hl
    have hf : kidsF kid = [kid 0] := kidsTo_one h0 15 (by omega) (fun i h2 h3 => hr i h2 (by omega))
    rw [hf] at h32
    refine ⟨?_, h32⟩
    have h2 : kidL kid = kidL (upd noK 0 (kid 0)) := kidL_of (fun i hi => by
      unfold upd
      by_cases h3 : i = 0
      · subst h3; rw [if_pos rfl]
      · rw [if_neg h3]; exact hr i (by omega) hi)
    simp only [oneKidX, sameL, decide_eq_true_eq]
    rw [h2]; rfl
theorem all32_nil {l : List Bs} (h : l.length = 0) : all32 l = true := by
  rw [List.length_eq_zero_iff.1 h]; rfl
theorem fine_chk (kind : Int) (path val : Bs) (kid : Nat → Bs) : fineR kind path val kid = chk kind path val kid := by
  rw [Bool.eq_iff_iff]
  unfold fineR chk
  by_cases k1 : kind = 1
  · simp only [if_pos k1]
    have hn := none_iff kid
    constructor
    · intro h
      split at h
      · cases h
      · split at h
        · cases h
        · rename_i ha hb
          simp at h hb
          simp [pathOk, hn.2 (by simp [h.1])]
          refine ⟨⟨⟨?_, ?_⟩, h.2⟩, ?_⟩
          · cases hf : fit path <;> simp [hf] at hb ⊢
          · omega
          · omega
    · intro h
      simp [pathOk] at h
      have hl := hn.1 h.1.1.1
      rw [if_neg (by simp [all32_nil hl]), if_neg (by simp [h.1.1.2.1]; omega)]
      simp [hl, h.1.2]
  · by_cases k2 : kind = 2
    · simp only [if_neg k1, if_pos k2]
      have ho := one_iff kid
      constructor
      · intro h
        split at h
        · cases h
        · split at h
          · cases h
          · rename_i ha hb
            simp at h hb ha
            have ho2 := ho.2 ⟨ha, h.1.1.1, h.1.1.2⟩
            rw [Bool.and_eq_true] at ho2
            simp [pathOk, ho2.1, ho2.2, h.2]
            refine ⟨⟨?_, by have := h.1.2; omega⟩, ?_⟩
            · cases hf : fit path <;> simp [hf] at hb ⊢
            · omega
      · intro h
        simp only [pathOk, Bool.and_eq_true] at h
        obtain ⟨⟨⟨h1, h2⟩, ⟨⟨h3, h4⟩, h5⟩⟩, h6⟩ := h
        obtain ⟨q1, q2, q3⟩ := ho.1 (by rw [h1, h2]; rfl)
        have hv : val = [] := by simpa using h6
        subst hv
        have h4' : 1 ≤ path.length := by
          have h4i : (1 : Int) ≤ (path.length : Int) := by simpa using h4
          omega
        have h5' : path.length ≤ 16 := by simpa using h5
        rw [if_neg (by simp [q1]), if_neg (by simp [h3]; omega)]
        simp [q2, q3, h4']
    · by_cases k3 : kind = 3
      · simp only [if_neg k1, if_neg k2, if_pos k3]
        constructor
        · intro h
          split at h
          · cases h
          · split at h
            · cases h
            · rename_i ha hb
              have ha' : all32 (kidsF kid) = true := by simpa using ha
              simp only [not_or] at hb
              obtain ⟨_, _, hv⟩ := hb
              simp at h
              obtain ⟨hp, h⟩ := h
              subst hp
              simp only [ha', Bool.and_eq_true, decide_eq_true_eq, List.isEmpty_nil]
              refine ⟨⟨⟨by simp, by simp⟩, ?_⟩, by omega⟩
              rcases h with h | ⟨h, h2⟩
              · omega
              · simp [h, h2]
        · intro h
          simp only [Bool.and_eq_true, decide_eq_true_eq] at h
          obtain ⟨⟨⟨h1, h2⟩, h3⟩, h4⟩ := h
          have hp : path = [] := by simpa using h1
          subst hp
          rw [if_neg (by simp [h2]), if_neg (by simp [fit]; omega)]
          by_cases hv : val.isEmpty = true
          · rw [if_pos hv] at h3
            simp; omega
          · rw [if_neg hv] at h3
            simp at hv
            simp [hv]; omega
      · simp only [if_neg k1, if_neg k2, if_neg k3]
        constructor
        · intro h
          split at h
          · cases h
          · split at h <;> cases h
        · intro h; cases h

end Pl
end Go.Proofs.YtaedgfnfkacimaaDoor

/- Layers 1, 2, 8, plain: a reader that ends well has eaten just the bytes that would be written. -/
set_option linter.unusedSimpArgs false
set_option linter.unusedVariables false
namespace Go.Proofs.YtaedgfnfkacimaaDoor
namespace Pl

theorem ofP_consE (c : UInt8) (r : Bs) : ofP (c :: r) = UInt8.ofNat (c.toNat / 16) :: UInt8.ofNat (c.toNat % 16) :: ofP r := by simp [ofP]
theorem fit_ofP (r : Bs) : fit (ofP r) = true := by
  induction r with
  | nil => rfl
  | cons c r ih =>
    have hc := c.toNat_lt
    rw [ofP_consE]
    unfold fit at ih ⊢
    simp only [List.all_cons, ih, Bool.and_true, Bool.and_eq_true, decide_eq_true_eq]
    constructor
    · simp; omega
    · simp; omega
theorem joined_ofP (r : Bs) : joined (ofP r) = r := by
  induction r with
  | nil => rfl
  | cons c r ih =>
    have hc := c.toNat_lt
    rw [ofP_consE, joined, ih]
    congr 1
    rw [← UInt8.toNat_inj]
    simp
    omega
theorem pack_unpack (s : Bs) (h : (unpack s).2.2 = 0) : (pack (unpack s).1 (unpack s).2.1).1 = s ∧ fit (unpack s).1 = true := by
  cases s with
  | nil => exact absurd h (by decide)
  | cons c r =>
    have hc := c.toNat_lt
    by_cases h1 : 3 < c.toNat / 16 ∨ (c.toNat / 16 % 2 = 0 ∧ c.toNat % 16 ≠ 0)
    · rw [unpack, if_pos h1] at h
      exact absurd h (by simp)
    · rw [show unpack (c :: r) = ((if c.toNat / 16 % 2 = 1 then UInt8.ofNat (c.toNat % 16) :: ofP r else ofP r), decide (2 ≤ c.toNat / 16), 0) from by rw [unpack, if_neg h1]]
      simp only [not_or, not_and, Nat.not_lt] at h1
      obtain ⟨h3, h4⟩ := h1
      by_cases ho : c.toNat / 16 % 2 = 1
      · simp only [if_pos ho]
        have hf : fit (UInt8.ofNat (c.toNat % 16) :: ofP r) = true := by
          have := fit_ofP r
          unfold fit at this ⊢
          simp only [List.all_cons, this, Bool.and_true, decide_eq_true_eq]
          simp; omega
        refine ⟨?_, hf⟩
        unfold pack
        have hl := ofP_len r
        rw [if_neg (by simp [hf]), if_pos (by simp [hl])]
        simp only [List.headD_cons, List.tail_cons, joined_ofP]
        congr 1
        rw [← UInt8.toNat_inj]
        by_cases h2 : 2 ≤ c.toNat / 16
        · simp [h2]; omega
        · simp [h2]; omega
      · simp only [if_neg ho]
        have hl := ofP_len r
        refine ⟨?_, fit_ofP r⟩
        unfold pack
        rw [if_neg (by simp [fit_ofP]), if_neg (by simp [hl])]
        simp only [joined_ofP]
        congr 1
        have h5 : c.toNat % 16 = 0 := by
          by_cases h6 : c.toNat % 16 = 0
          · exact h6
          · exact absurd (h4 (by omega)) (by simpa using h6)
        rw [← UInt8.toNat_inj]
        by_cases h2 : 2 ≤ c.toNat / 16
        · simp [h2]; omega
        · simp [h2]; omega

/-- A code that is not 0 stays. -/
theorem mBytes_bad (s : Bs) (c n : Int) (h : c ≠ 0) : mBytes s c n = ([], s, c) := by unfold mBytes; rw [if_pos h]
theorem mText_bad (s : Bs) (c most : Int) (h : c ≠ 0) : mText s c most = ([], s, c) := by unfold mText; rw [if_pos h]
theorem rdKids_same (set : Nat) (s : Bs) (c : Int) : ∀ k i, k ≤ i → (rdKids set s c k).1 i = []
  | 0, _, _ => rfl
  | k + 1, i, h => by
    rw [rdKids]
    split
    · simp only [upd]
      rw [if_neg (by omega)]
      exact rdKids_same set s c k i (by omega)
    · exact rdKids_same set s c k i (by omega)
/-- Kids that are read well: the bytes are theirs, and their bits are those asked for. -/
theorem rdKids_eats (set : Nat) (s : Bs) (c : Int) : ∀ k, k ≤ 16 → (rdKids set s c k).2.2 = 0 →
    c = 0 ∧ s = (kidsTo (rdKids set s c k).1 k).flatten ++ (rdKids set s c k).2.1 ∧ ∀ i, i < k → bitv (rdKids set s c k).1 i = set / 2 ^ (15 - i) % 2
  | 0, _, h => ⟨h, by simp [kidsTo, rdKids], fun i hi => by omega⟩
  | k + 1, hk, h => by
    rw [rdKids] at h ⊢
    by_cases hb : set / 2 ^ (15 - k) % 2 = 1
    · rw [if_pos hb] at h ⊢
      have he := mBytes_eats (rdKids set s c k).2.1 (rdKids set s c k).2.2 32 h
      obtain ⟨e1, e2, e3⟩ := he
      obtain ⟨a1, a2, a3⟩ := rdKids_eats set s c k (by omega) e1
      have hsame : kidsTo (upd (rdKids set s c k).1 k (mBytes (rdKids set s c k).2.1 (rdKids set s c k).2.2 32).1) k = kidsTo (rdKids set s c k).1 k := by
        unfold kidsTo
        congr 1
        apply List.map_congr_left
        intro i hi
        have : i < k := by simpa using hi
        simp only [upd]
        rw [if_neg (by omega)]
      refine ⟨a1, ?_, fun i hi => ?_⟩
      · rw [flat_succ, hsame]
        simp only [upd, if_true]
        rw [List.append_assoc]
        have e2' : (rdKids set s c k).2.1 = (mBytes (rdKids set s c k).2.1 (rdKids set s c k).2.2 32).1 ++ (mBytes (rdKids set s c k).2.1 (rdKids set s c k).2.2 32).2.1 := e2
        rw [← e2']
        exact a2
      · by_cases hik : i = k
        · subst hik
          have e3' : (mBytes (rdKids set s c i).2.1 (rdKids set s c i).2.2 32).1.length = 32 := e3
          rw [hb]
          simp only [bitv, upd, if_true]
          rw [if_neg (fun e => by rw [e] at e3'; simp at e3')]
        · rw [← a3 i (by omega)]
          simp [bitv, upd, hik]
    · rw [if_neg hb] at h ⊢
      obtain ⟨a1, a2, a3⟩ := rdKids_eats set s c k (by omega) h
      have h0 := rdKids_same set s c k k (Nat.le_refl _)
      refine ⟨a1, ?_, fun i hi => ?_⟩
      · rw [flat_succ, h0, List.append_nil]
        exact a2
      · by_cases hik : i = k
        · subst hik
          rw [bitv, if_pos h0]; omega
        · exact a3 i (by omega)

theorem numTo_bits (kid : Nat → Bs) (set : Nat) (hs : set < 65536) (h : ∀ i, i < 16 → bitv kid i = set / 2 ^ (15 - i) % 2) : ∀ n, n ≤ 16 → numTo kid n = set / 2 ^ (16 - n)
  | 0, _ => by rw [numTo]; exact (Nat.div_eq_of_lt (by simpa using hs)).symm
  | n + 1, hn => by
    rw [numTo, numTo_bits kid set hs h n (by omega), h n (by omega), show 16 - n = (15 - n) + 1 from by omega, show 16 - (n + 1) = 15 - n from by omega, Nat.pow_succ, ← Nat.div_div_eq_div_mul]
    omega
/-- What a branch's bytes tell is written as those bytes. -/
theorem rdB_eats (a b : UInt8) (r : Bs) (h : (rdB (a.toNat * 256 + b.toNat) r).2.2 = 0) :
    3 :: a :: b :: r = enc 3 [] (rdB (a.toNat * 256 + b.toNat) r).1.val (rdB (a.toNat * 256 + b.toNat) r).1.kid ++ (rdB (a.toNat * 256 + b.toNat) r).2.1 := by
  have ha := a.toNat_lt
  have hb := b.toNat_lt
  generalize hset : a.toNat * 256 + b.toNat = set at *
  obtain ⟨e1, e2, _⟩ := mText_eats (rdKids set r 0 16).2.1 (rdKids set r 0 16).2.2 32 h
  obtain ⟨_, a2, a3⟩ := rdKids_eats set r 0 16 (by omega) e1
  have hn := numTo_bits (rdKids set r 0 16).1 set (by omega) a3 16 (by omega)
  have h8 := numTo_bits (rdKids set r 0 16).1 set (by omega) a3 8 (by omega)
  simp at hn h8
  have hh : UInt8.ofNat (hiK (rdKids set r 0 16).1) = a := by
    rw [← UInt8.toNat_inj]; unfold hiK; rw [h8]; simp; omega
  have hl : UInt8.ofNat (loK (rdKids set r 0 16).1) = b := by
    rw [← UInt8.toNat_inj]; unfold loK; rw [hn]; simp; omega
  show _ = enc 3 [] (mText (rdKids set r 0 16).2.1 (rdKids set r 0 16).2.2 32).1 (rdKids set r 0 16).1 ++ (mText (rdKids set r 0 16).2.1 (rdKids set r 0 16).2.2 32).2.1
  have he : enc 3 [] (mText (rdKids set r 0 16).2.1 (rdKids set r 0 16).2.2 32).1 (rdKids set r 0 16).1 = 3 :: a :: b :: ((kidsTo (rdKids set r 0 16).1 16).flatten ++ text (mText (rdKids set r 0 16).2.1 (rdKids set r 0 16).2.2 32).1) := by
    simp [enc, hh, hl, kidsF]
  rw [he]
  simp only [List.cons_append, List.append_assoc]
  rw [← e2, ← a2]

theorem rdL_eats (r : Bs) (h : (rdL r 0).2.2 = 0) (hu : (unpack (mText r 0 16).1).2.2 = 0) (hl : (unpack (mText r 0 16).1).2.1 = true) :
    1 :: r = enc 1 (rdL r 0).1.path (rdL r 0).1.val noK ++ (rdL r 0).2.1 := by
  obtain ⟨e1, e2, _⟩ := mText_eats (mText r 0 16).2.1 (mText r 0 16).2.2 32 h
  obtain ⟨_, f2, _⟩ := mText_eats r 0 16 e1
  obtain ⟨p1, _⟩ := pack_unpack _ hu
  rw [hl] at p1
  show _ = enc 1 (unpack (mText r 0 16).1).1 (mText (mText r 0 16).2.1 (mText r 0 16).2.2 32).1 noK ++ (mText (mText r 0 16).2.1 (mText r 0 16).2.2 32).2.1
  rw [show enc 1 (unpack (mText r 0 16).1).1 (mText (mText r 0 16).2.1 (mText r 0 16).2.2 32).1 noK = 1 :: (text (mText r 0 16).1 ++ text (mText (mText r 0 16).2.1 (mText r 0 16).2.2 32).1) from by simp [enc, p1]]
  simp only [List.cons_append, List.append_assoc]
  rw [← e2, ← f2]
theorem rdE_eats (r : Bs) (h : (rdE 2 r 0).2.2 = 0) (hu : (unpack (mText r 0 16).1).2.2 = 0) (hl : (unpack (mText r 0 16).1).2.1 = false) :
    2 :: r = enc 2 (rdE 2 r 0).1.path [] (rdE 2 r 0).1.kid ++ (rdE 2 r 0).2.1 := by
  obtain ⟨e1, e2, _⟩ := mBytes_eats (mText r 0 16).2.1 (mText r 0 16).2.2 32 h
  obtain ⟨_, f2, _⟩ := mText_eats r 0 16 e1
  obtain ⟨p1, _⟩ := pack_unpack _ hu
  rw [hl] at p1
  show _ = enc 2 (unpack (mText r 0 16).1).1 [] (upd noK 0 (mBytes (mText r 0 16).2.1 (mText r 0 16).2.2 32).1) ++ (mBytes (mText r 0 16).2.1 (mText r 0 16).2.2 32).2.1
  rw [show enc 2 (unpack (mText r 0 16).1).1 [] (upd noK 0 (mBytes (mText r 0 16).2.1 (mText r 0 16).2.2 32).1) = 2 :: (text (mText r 0 16).1 ++ (mBytes (mText r 0 16).2.1 (mText r 0 16).2.2 32).1) from by simp [enc, p1, upd]]
  simp only [List.cons_append, List.append_assoc]
  have e2' : (mText r 0 16).2.1 = (mBytes (mText r 0 16).2.1 (mText r 0 16).2.2 32).1 ++ (mBytes (mText r 0 16).2.1 (mText r 0 16).2.2 32).2.1 := e2
  rw [← e2', ← f2]

end Pl
end Go.Proofs.YtaedgfnfkacimaaDoor
