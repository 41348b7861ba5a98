/- The document's lists: as bytes, and out of its reader. -/
import Derived.Test.YtmldonbmjgelnaaDoorRList
import Derived.Test.YtmldonbmjgelnaaDoorRef2R
set_option linter.unusedSimpArgs false
set_option linter.unusedVariables false
namespace Go.Proofs.YtmldonbmjgelnaaDoor
open Go.RowKit Pl

set_option maxRecDepth 100000 in
set_option maxHeartbeats 400000 in
theorem rflist_any (v : Value) (l : List Bs) (w : World) (hn : l.length ≤ 1000) (hl : ∀ i, i < l.length → (l.getD i []).length ≤ 1000000) (hv : SS w v l) :
    Calls Tryd.prog 86 #[v] w fun e w' => e = .returned (.string ⟨List.toArray (encS l)⟩) ∧ Below w.heap.size w w' := by
  generalize hr : encS l = r
  have HR := Lib.hid hr
  clear hr
  obtain ⟨a, c, rfl⟩ := hv.form
  have HV := Lib.hid hv
  have HL := Lib.hid hl
  have HB := Lib.hid (listB_len l 1000000 hl)
  clear hv hl
  go_enter Tryd.func86, Tryd.ntmps86
  go_wp2_with fail
  refine (rNumber_any l.length (by omega) _).mono ?_
  rintro e w1 ⟨rfl, hb⟩
  have hn9 := num_len l.length
  go_wp2_with fail
  go_loopw [3, 4] (fun s3 s4 wr => ∃ i : Nat, i ≤ l.length ∧ s4 = .int .i64 i ∧ s3 = .string ⟨List.toArray (num l.length ++ listB (l.take i))⟩ ∧ Below w.heap.size w wr) (fun _ s4 _ => l.length - (intOf s4).toNat)
  case atStart => exact ⟨0, by omega, rfl, by simp [listB], hb⟩
  case round =>
    clear hb
    obtain ⟨i, hi, rfl, rfl, hb⟩ := hrel
    obtain ⟨wq, h⟩ := Below.nm hb
    subst h
    by_cases hlt : i < l.length
    · have hlt' : (i : Int) < (l.length : Int) := by omega
      obtain ⟨g, off, rfl, c1⟩ := (HV.out.keep hb).at i hlt
      have o1 := HL.out i hlt
      have hB := HB.out i (by omega)
      have hnx : num l.length ++ listB (l.take (i + 1)) = num l.length ++ listB (l.take i) ++ text (l.getD i []) := by
        rw [takeS l i hlt, listB_app, List.append_assoc]
      have hs9 : (num l.length ++ listB (l.take i)).length ≤ 1100000000 := by rw [List.length_append]; have : i ≤ 1000 := (by omega); omega
      generalize hx : l.getD i [] = x at *
      generalize num l.length ++ listB (l.take i) = s at *
      have hx9 := text_len x
      have hcat : ¬ 9223372036854775807 < s.length + (text x).length := by omega
      clear hx hB HB
      go_wp2_with fail
      refine (rText_any x (by omega) _).mono ?_
      rintro e w4 ⟨rfl, hb4⟩
      go_wp2_with fail
      exact ⟨⟨i + 1, by omega, by go_num, by rw [hnx], hb.trans (hb4.mono hb.size)⟩, by simp [intOf]; omega⟩
    · obtain rfl : i = l.length := by omega
      rw [List.take_length]
      have hlt' : ¬ (l.length : Int) < (l.length : Int) := by omega
      go_wp2_with fail
      all_goals (go_ret; refine ⟨?_, hb⟩; rw [← HR.out]; rfl)

namespace Pl
theorem lGo_rest (each : Int) : ∀ (n : Nat) (s : Bs), (lGo each n s).2.1.length ≤ s.length
  | 0, s => Nat.le_refl _
  | n + 1, s => by
    unfold lGo
    have h := (tx_len s each).2
    split
    · simp
    · exact Nat.le_trans (lGo_rest each n _) h
theorem mList_rest (s : Bs) (c most each : Int) : (mList s c most each).2.1.length ≤ s.length := by
  unfold mList
  split
  · simp
  · split
    · simp
    · rename_i h
      split
      · simp
      · split
        · simp
        · refine Nat.le_trans (lGo_rest each _ _) ?_
          obtain ⟨_, k, _, _, hk⟩ := take_le s (by simpa using h)
          rw [hk]; simp
theorem lGo_len (each : Int) (h0 : 0 ≤ each) : ∀ (n : Nat) (s : Bs), ∀ x ∈ (lGo each n s).1, (x.length : Int) ≤ each
  | 0, s => by simp [lGo]
  | n + 1, s => by
    unfold lGo
    split
    · simp
    · rename_i hne
      intro x hx
      rcases List.mem_cons.1 hx with rfl | hx
      · have h := mText_len s 0 each h0
        have hq : (tx s each).2.2 = 0 := by
          rcases Classical.em ((tx s each).2.2 = 0) with h | h
          · exact h
          · exact absurd h hne
        rw [show (mText s 0 each).1 = (tx s each).1 from by simp [mText, hq]] at h
        exact h
      · exact lGo_len each h0 n _ x hx
end Pl

set_option maxRecDepth 100000 in
set_option maxHeartbeats 400000 in
theorem rrList_any (s : Bs) (c most each : Int) (p : Nat) (w : World) (R : RRdr w p s c) (hm : most ≤ 1000) (hs : s.length < 9223372036854775800) :
    Calls Tryd.prog 88 #[.pointer (some ⟨p, 0, none⟩), .int .i64 (most), .int .i64 (each)] w fun e w' => ∃ v, e = .returned v ∧ SRow w' w.heap.size v (mList s c most each).1 ∧ RRdr w' p (mList s c most each).2.1 (mList s c most each).2.2 ∧ Mod [p] w w' := by
  have B : Blk w p #[.string ⟨List.toArray (s)⟩, .int .i64 (c)] := R
  obtain ⟨b1, b2, b3⟩ := id B
  by_cases hc : c = 0
  · subst hc
    by_cases he : (Pl.take s).2.2 = 0
    · by_cases hmo : most < (Pl.take s).1
      · rw [mList_long _ _ _ he hmo]
        have hd : decide (most < ((Pl.take s).1 : Int)) = true := by simpa using hmo
        go_enter Tryd.func88, Tryd.ntmps88
        go_wp2_with fail
        refine (rtake_any s hs _).mono ?_
        rintro e w1 ⟨rfl, nq, rfl⟩
        rw [he]
        clear he
        generalize (Pl.take s).1 = n at *
        generalize (Pl.take s).2.1 = s0 at *
        go_wp2_with fail
        go_loopw [8, 9, 10, 11] (fun s8 s9 s10 s11 wr => s9 = .int .i64 (2) ∧ s10 = .slice none 0 0 ∧ s11 = .int .i64 (0) ∧ s8 = .string ⟨List.toArray (s0)⟩ ∧ wr = w.drewN nq) (fun _ _ _ _ _ => 0)
        case atStart => exact ⟨rfl, rfl, rfl, rfl, rfl⟩
        case round =>
          obtain ⟨rfl, rfl, rfl, rfl, rfl⟩ := hrel
          go_wp2_with fail
          go_ret
          exact ⟨.slice none 0 0, rfl, SRow.nil _ _, (B.drewN nq).set 1 _, ((Mod.refl _ _).drewN nq).setCell (.inl (by simp)) _⟩
      · generalize hr : mList s 0 most each = r
        have HR : Hid (mListIn s (lGo each (Pl.take s).1 (Pl.take s).2.1) = r) := Lib.hid (by rw [← hr, mList_in _ _ _ he hmo])
        clear hr
        have hd : decide (most < ((Pl.take s).1 : Int)) = false := by simpa using hmo
        have hn1 : (Pl.take s).1 ≤ 1000 := by omega
        have hs1 : (Pl.take s).2.1.length < 9223372036854775800 := by
          obtain ⟨_, k, _, _, hk⟩ := take_le s he
          rw [hk]; simp; omega
        go_enter Tryd.func88, Tryd.ntmps88
        go_wp2_with fail
        refine (rtake_any s hs _).mono ?_
        rintro e w1 ⟨rfl, nq, rfl⟩
        rw [he]
        clear he
        generalize (Pl.take s).1 = n at *
        generalize (Pl.take s).2.1 = s0 at *
        have B1 := B.drewN nq
        have m1 : Mod [p] w (w.drewN nq) := (Mod.refl _ _).drewN nq
        have hsz0 : w.heap.size ≤ (w.drewN nq).heap.size := m1.size
        clear b1 b2 b3
        go_wp2_with fail
        go_loopw [8, 9, 10, 11] (fun s8 s9 s10 s11 wr => ∃ (i : Nat) (e : Int) (t : Bs) (acc : List Bs), i ≤ n ∧ acc.length ≤ i ∧ s11 = .int .i64 (i) ∧ s9 = .int .i64 (e) ∧ SRow wr w.heap.size s10 acc ∧ t.length < 9223372036854775800 ∧ s8 = .string ⟨List.toArray (t)⟩ ∧ Blk wr p #[.string ⟨List.toArray (s)⟩, .int .i64 (0)] ∧ Mod [p] w wr ∧
            Hid ((e = 0 → lGo each n s0 = (acc ++ (lGo each (n - i) t).1, (lGo each (n - i) t).2)) ∧ (e ≠ 0 → (lGo each n s0).2.2 = e))) (fun _ _ _ s11 _ => n - (intOf s11).toNat)
        case atStart => exact ⟨0, 0, s0, [], by omega, by simp, rfl, rfl, SRow.nil _ _, hs1, rfl, B1, m1, Lib.hid ⟨fun _ => by simp, fun h => absurd rfl h⟩⟩
        case round =>
          clear m1 B1 hsz0
          obtain ⟨i, e, t, acc, hi, hac, rfl, rfl, hS, ht1, rfl, B1, m1, HG⟩ := hrel
          obtain ⟨b1, b2, b3⟩ := id B1
          have hpw : p < w.heap.size := B.lt
          have hsz0 := m1.size
          by_cases he : e = 0
          · subst he
            by_cases hlt : i < n
            · have hlt' : (i : Int) < (n : Int) := by omega
              have hG := HG.out.1 rfl
              obtain ⟨k, hk⟩ : ∃ k, n - i = k + 1 := ⟨n - i - 1, by omega⟩
              rw [hk] at hG
              have HS := Lib.hid (lGo_step each k t)
              have HB := Lib.hid (lGo_bad each k t)
              have HK := Lib.hid (show n - (i + 1) = k by omega)
              have HGG := Lib.hid hG
              have ht2 := (tx_len t each).2
              clear hG hk HG
              go_wp2_with fail
              refine (rtext2_any t each ht1 _).mono ?_
              rintro e w2 ⟨rfl, nq, rfl⟩
              have hS2 := hS.drewN nq
              have B2 := B1.drewN nq
              have m2 := m1.drewN nq
              generalize hx : tx t each = x at *
              obtain ⟨x1, x2, x3⟩ := x
              simp only at ht2 HS HB
              clear hx
              go_wp2_with (first
                | (at_builtin; refine wpList_appS rfl (.tmp 52) (.tmp 54) rfl w.heap.size _ acc rfl (hS2.alloc _) _ 0 1 1 [x1] rfl rfl (ssrc1 _ _ _) (by simp; omega) (by simp; omega) ?_; rintro v' w7 hS7 hb7)
                | fail)
              have m7 : Mod [p] w w7 := (m2.alloc _).grow hb7
              have B7 : Blk w7 p #[.string ⟨List.toArray (s)⟩, .int .i64 (0)] := (B2.alloc _).of_block (hb7.block p hpw) hb7.size
              refine ⟨⟨i + 1, x3, x2, acc ++ [x1], by omega, by simp; omega, by go_num, rfl, hS7, by omega, rfl, B7, m7, Lib.hid ⟨fun h => ?_, fun h => ?_⟩⟩, by simp [intOf]; omega⟩
              · rw [HGG.out, HS.out h, HK.out]
                simp
              · rw [HGG.out]
                exact HB.out h
            · obtain rfl : i = n := by omega
              have hG := HG.out.1 rfl
              rw [Nat.sub_self, lGo, List.append_nil] at hG
              have HZ : Hid ((acc, t, (0 : Int)) = r) := Lib.hid (by rw [← HR.out, hG]; simp [mListIn])
              clear HG hG HR
              go_wp2_with fail
              all_goals (go_ret; refine ⟨_, rfl, ?_, ?_, ?_⟩)
              · rw [← HZ.out]; exact SRow.mod (p := p) hS (((Mod.refl _ _).setCell (.inl (by simp)) _).setCell (.inl (by simp)) _) hpw
              · rw [← HZ.out]; exact (B1.set 1 _).set 0 _
              · exact (m1.setCell (.inl (by simp)) _).setCell (.inl (by simp)) _
          · have HZ : Hid (([], s, e) = r) := Lib.hid (by rw [← HR.out]; unfold mListIn; rw [HG.out.2 he, if_pos he])
            have hc2 : (e != 0) = true := by simpa using he
            have hc3 : (e == 0) = false := by simpa using he
            clear HG HR
            go_wp2_with fail
            all_goals
              go_ret
              refine ⟨.slice none 0 0, rfl, ?_, ?_, m1.setCell (.inl (by simp)) _⟩
              · rw [← HZ.out]; exact SRow.nil _ _
              · rw [← HZ.out]; exact B1.set 1 _
    · rw [mList_bad _ _ _ he]
      generalize he0 : (Pl.take s).2.2 = e0 at *
      have HE := Lib.hid he0
      clear he0
      have hc2 : (e0 != 0) = true := by simpa using he
      have hc3 : (e0 == 0) = false := by simpa using he
      go_enter Tryd.func88, Tryd.ntmps88
      go_wp2_with fail
      refine (rtake_any s hs _).mono ?_
      rintro e w1 ⟨rfl, nq, rfl⟩
      rw [HE.out]
      clear HE
      generalize (Pl.take s).1 = n at *
      generalize (Pl.take s).2.1 = s0 at *
      go_wp2_with fail
      go_loopw [8, 9, 10, 11] (fun s8 s9 s10 s11 wr => s9 = .int .i64 (e0) ∧ s10 = .slice none 0 0 ∧ s11 = .int .i64 (0) ∧ s8 = .string ⟨List.toArray (s0)⟩ ∧ wr = w.drewN nq) (fun _ _ _ _ _ => 0)
      case atStart => exact ⟨rfl, rfl, rfl, rfl, rfl⟩
      case round =>
        obtain ⟨rfl, rfl, rfl, rfl, rfl⟩ := hrel
        go_wp2_with fail
        go_ret
        exact ⟨.slice none 0 0, rfl, SRow.nil _ _, (B.drewN nq).set 1 _, ((Mod.refl _ _).drewN nq).setCell (.inl (by simp)) _⟩
  · rw [mList_c _ _ _ _ hc]
    have hc2 : (c != 0) = true := by simpa using hc
    go_enter Tryd.func88, Tryd.ntmps88
    go_wp2_with fail
    all_goals go_ret
    all_goals exact ⟨.slice none 0 0, rfl, SRow.nil _ _, B, Mod.refl _ _⟩
end Go.Proofs.YtmldonbmjgelnaaDoor
