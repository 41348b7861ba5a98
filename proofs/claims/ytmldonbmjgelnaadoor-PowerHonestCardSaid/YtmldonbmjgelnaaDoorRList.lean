/- Walks of layer 2: a list out of a reader. -/
import Derived.Test.YtmldonbmjgelnaaDoorList
set_option linter.unusedSimpArgs false
set_option linter.unusedVariables false
namespace Go.Proofs.YtmldonbmjgelnaaDoor
open Go.RowKit Pl

theorem SRow.mod {w w' : World} {b p : Nat} {v : Value} {l : List Bs} (h : SRow w b v l) (hm : Mod [p] w w') (hp : p < b) : SRow w' b v l := by
  refine h.kept (fun k hk => hm.block k ?_ ?_)
  · rcases h.cells with ⟨rfl, _⟩ | ⟨g, cap, rfl, _, hg, _⟩
    · cases hk
    · cases hk; exact hg
  · have := h.own k hk
    simp; omega
theorem SRow.drewN {w : World} {b : Nat} {v : Value} {l : List Bs} (h : SRow w b v l) (n : Nat) : SRow (w.drewN n) b v l := h
theorem SRow.low {w : World} {b c : Nat} {v : Value} {l : List Bs} (h : SRow w b v l) (hc : c ≤ b) : SRow w c v l := by
  refine ⟨h.1, h.2.imp id ?_⟩
  rintro ⟨g, cap, cur, hv, h1, h2⟩
  exact ⟨g, cap, cur, hv, Nat.le_trans hc h1, h2⟩
theorem Mod.grow {l : List Nat} {a w w' : World} (h : Mod l a w) (k : Below a.heap.size w w') : Mod l a w' :=
  ⟨k.os.trans h.os, k.tape.trans h.tape, k.output.trans h.output, Nat.le_trans h.size k.size, fun i hi hn => (k.block i hi).trans (h.block i hi hn)⟩
namespace Pl
/-- What is left to be told behind i texts. -/
theorem lGo_step (each : Int) (n : Nat) (s : Bs) (h : (tx s each).2.2 = 0) : lGo each (n + 1) s = ((tx s each).1 :: (lGo each n (tx s each).2.1).1, (lGo each n (tx s each).2.1).2) := by
  rw [lGo, if_neg (by simpa using h)]
theorem lGo_bad (each : Int) (n : Nat) (s : Bs) (h : (tx s each).2.2 ≠ 0) : (lGo each (n + 1) s).2.2 = (tx s each).2.2 := by
  rw [lGo, if_pos h]
end Pl

set_option maxRecDepth 100000 in
set_option maxHeartbeats 400000 in
theorem rlist_any (s : Bs) (c most each : Int) (p : Nat) (w : World) (R : Rdr w p s c) (hm : most ≤ 1000) :
    Calls Tryd.prog 87 #[.pointer (some ⟨p, 0, none⟩), .int .i64 (most), .int .i64 (each)] w fun e w' => ∃ v, e = .returned v ∧ SRow w' w.heap.size v (mList s c most each).1 ∧ Rdr w' p (mList s c most each).2.1 (mList s c most each).2.2 ∧ Mod [p] w w' := by
  obtain ⟨l, a, h1, h2, rfl, B⟩ := id R
  obtain ⟨b1, b2, b3⟩ := id B
  by_cases hc : c = 0
  · subst hc
    have hfl : a ≤ 9223372036854775807 := by omega
    by_cases he : (Pl.take (l.drop a)).2.2 = 0
    · by_cases hmo : most < (Pl.take (l.drop a)).1
      · rw [mList_long _ _ _ he hmo]
        have hd : decide (most < ((Pl.take (l.drop a)).1 : Int)) = true := by simpa using hmo
        go_enter Tryd.func87, Tryd.ntmps87
        go_wp2_with fail
        refine (number_ok l a p _ h1 h2 B).mono ?_
        rintro e w1 ⟨rfl, ⟨x, hx1, hx2, B1, hx3⟩, m1⟩
        rw [he]
        clear hx3 he hx2 b1 b2 b3
        generalize (Pl.take (l.drop a)).1 = n at *
        go_wp2_with fail
        go_loopw [9, 11, 12] (fun s9 s11 s12 wr => s9 = .int .i64 (2) ∧ s11 = .slice none 0 0 ∧ s12 = .int .i64 (0) ∧ wr = w1) (fun _ _ _ _ => 0)
        case atStart => exact ⟨rfl, rfl, rfl, rfl⟩
        case round =>
          obtain ⟨rfl, rfl, rfl, rfl⟩ := hrel
          go_wp2_with fail
          all_goals
            refine (refused_yes l x a 2 p _ B1).mono ?_
            rintro e w2 ⟨rfl, B2, m2⟩
            go_wp2_with fail
            go_ret
            exact ⟨.slice none 0 0, rfl, SRow.nil _ _, ⟨l, a, h1, h2, rfl, B2⟩, m1.trans m2⟩
      · generalize hr : mList (l.drop a) 0 most each = r
        have HR : Hid (mListIn (l.drop a) (lGo each (Pl.take (l.drop a)).1 (Pl.take (l.drop a)).2.1) = r) := Lib.hid (by rw [← hr, mList_in _ _ _ he hmo])
        clear hr
        have hd : decide (most < ((Pl.take (l.drop a)).1 : Int)) = false := by simpa using hmo
        go_enter Tryd.func87, Tryd.ntmps87
        go_wp2_with fail
        refine (number_ok l a p _ h1 h2 B).mono ?_
        rintro e w1 ⟨rfl, ⟨x0, hx1, hx2, B1, hx3⟩, m1⟩
        have HX := Lib.hid (hx3 he)
        rw [he]
        clear hx3 he hx2 b1 b2 b3
        have hn1 : (Pl.take (l.drop a)).1 ≤ 1000 := by omega
        generalize (Pl.take (l.drop a)).1 = n at *
        generalize (Pl.take (l.drop a)).2.1 = s0 at *
        go_wp2_with fail
        go_loopw [9, 11, 12] (fun s9 s11 s12 wr => ∃ (i x : Nat) (e : Int) (acc : List Bs), i ≤ n ∧ acc.length ≤ i ∧ s12 = .int .i64 (i) ∧ s9 = .int .i64 (e) ∧ SRow wr w.heap.size s11 acc ∧ x ≤ l.length ∧ Blk wr p #[.string ⟨List.toArray (l)⟩, .int .i64 (x), .int .i64 (0)] ∧ Mod [p] w wr ∧
            Hid ((e = 0 → lGo each n s0 = (acc ++ (lGo each (n - i) (l.drop x)).1, (lGo each (n - i) (l.drop x)).2)) ∧ (e ≠ 0 → (lGo each n s0).2.2 = e))) (fun _ _ s12 _ => n - (intOf s12).toNat)
        case atStart => exact ⟨0, x0, 0, [], by omega, by simp, rfl, rfl, SRow.nil _ _, hx1, B1, m1, Lib.hid ⟨fun _ => by rw [HX.out]; simp, fun h => absurd rfl h⟩⟩
        case round =>
          clear m1 B1 hx1 HX
          obtain ⟨i, x, e, acc, hi, hac, rfl, rfl, hS, hx1, B1, m1, HG⟩ := hrel
          obtain ⟨b1, b2, b3⟩ := id B1
          have hpw : p < w.heap.size := B.lt
          by_cases he : e = 0
          · subst he
            by_cases hlt : i < n
            · have hlt' : (i : Int) < (n : Int) := by omega
              have hG := HG.out.1 rfl
              obtain ⟨k, hk⟩ : ∃ k, n - i = k + 1 := ⟨n - i - 1, by omega⟩
              rw [hk] at hG
              have HS := Lib.hid (lGo_step each k (l.drop x))
              have HB := Lib.hid (lGo_bad each k (l.drop x))
              have HK := Lib.hid (show n - (i + 1) = k by omega)
              have HGG := Lib.hid hG
              clear hG hk HG
              go_wp2_with fail
              refine (rtext_in l x each p _ h1 hx1 B1).mono ?_
              rintro e w2 ⟨rfl, ⟨y, hy1, B2, hy3⟩, m2⟩
              have hS2 := hS.mod m2 hpw
              have HY := Lib.hid hy3
              clear hy3
              by_cases ht : (tx (l.drop x) each).2.2 = 0
              · have HT := Lib.hid ht
                have hsz := (m1.trans m2).size
                rw [ht]
                clear ht
                go_wp2_with (first
                  | (at_builtin; refine wpList_appS rfl (.tmp 49) (.tmp 51) rfl w.heap.size _ acc rfl (hS2.alloc _) w2.heap.size 0 1 1 [(tx (l.drop x) each).1] rfl rfl (ssrc1 _ _ _) (by simp; omega) (by simp; omega) ?_; rintro v' w7 hS7 hb7)
                  | fail)
                have m7 : Mod [p] w w7 := ((m1.trans m2).alloc _).grow hb7
                have B7 : Blk w7 p #[.string ⟨List.toArray (l)⟩, .int .i64 (y), .int .i64 (0)] := (B2.alloc _).of_block (hb7.block p hpw) hb7.size
                refine ⟨⟨i + 1, y, 0, acc ++ [(tx (l.drop x) each).1], by omega, by simp; omega, by go_num, rfl, hS7, hy1, B7, m7, Lib.hid ⟨fun _ => ?_, fun h => absurd rfl h⟩⟩, by simp [intOf]; omega⟩
                rw [HGG.out, HS.out HT.out, HK.out, HY.out HT.out]
                simp
              · have hc2 : ((tx (l.drop x) each).2.2 == 0) = false := by simpa using ht
                have HT := Lib.hid ht
                generalize he2 : (tx (l.drop x) each).2.2 = e2 at *
                have hte : ¬ e2 = 0 := ht
                have HE := Lib.hid he2
                clear he2
                go_wp2_with fail
                refine ⟨⟨i + 1, y, e2, acc, by omega, by omega, by go_num, rfl, hS2, hy1, B2, m1.trans m2, Lib.hid ⟨fun h => absurd h HT.out, fun _ => ?_⟩⟩, by simp [intOf]; omega⟩
                rw [HGG.out]
                exact HB.out HT.out
            · obtain rfl : i = n := by omega
              have hG := HG.out.1 rfl
              rw [Nat.sub_self, lGo, List.append_nil] at hG
              have HZ : Hid ((acc, l.drop x, (0 : Int)) = r) := Lib.hid (by rw [← HR.out, hG]; simp [mListIn])
              clear HG hG HR
              go_wp2_with fail
              all_goals (go_ret; refine ⟨_, rfl, ?_, ?_, m1⟩)
              · rw [← HZ.out]; exact hS
              · rw [← HZ.out]; exact ⟨l, x, h1, hx1, rfl, B1⟩
          · have HZ : Hid (([], l.drop a, e) = r) := Lib.hid (by rw [← HR.out]; unfold mListIn; rw [HG.out.2 he, if_pos he])
            have hc2 : (e != 0) = true := by simpa using he
            have hc3 : (e == 0) = false := by simpa using he
            clear HG HR
            go_wp2_with fail
            all_goals
              refine (refused_yes l x a e p _ B1).mono ?_
              rintro e w2 ⟨rfl, B2, m2⟩
              go_wp2_with fail
              go_ret
              refine ⟨.slice none 0 0, rfl, ?_, ?_, m1.trans m2⟩
              · rw [← HZ.out]; exact SRow.nil _ _
              · rw [← HZ.out]; exact ⟨l, a, h1, h2, rfl, B2⟩
    · rw [mList_bad _ _ _ he]
      generalize he0 : (Pl.take (l.drop a)).2.2 = e0 at *
      have HE := Lib.hid he0
      clear he0
      have hc2 : (e0 != 0) = true := by simpa using he
      have hc3 : (e0 == 0) = false := by simpa using he
      go_enter Tryd.func87, Tryd.ntmps87
      go_wp2_with fail
      refine (number_ok l a p _ h1 h2 B).mono ?_
      rintro e w1 ⟨rfl, ⟨x, hx1, hx2, B1, hx3⟩, m1⟩
      rw [HE.out]
      clear hx3 hx2 b1 b2 b3 HE
      generalize (Pl.take (l.drop a)).1 = n at *
      go_wp2_with fail
      go_loopw [9, 11, 12] (fun s9 s11 s12 wr => s9 = .int .i64 (e0) ∧ s11 = .slice none 0 0 ∧ s12 = .int .i64 (0) ∧ wr = w1) (fun _ _ _ _ => 0)
      case atStart => exact ⟨rfl, rfl, rfl, rfl⟩
      case round =>
        obtain ⟨rfl, rfl, rfl, rfl⟩ := hrel
        go_wp2_with fail
        all_goals
          refine (refused_yes l x a e0 p _ B1).mono ?_
          rintro e w2 ⟨rfl, B2, m2⟩
          go_wp2_with fail
          go_ret
          exact ⟨.slice none 0 0, rfl, SRow.nil _ _, ⟨l, a, h1, h2, rfl, B2⟩, m1.trans m2⟩
  · rw [mList_c _ _ _ _ hc]
    have hc2 : (c != 0) = true := by simpa using hc
    have hc3 : (c == 0) = false := by simpa using hc
    go_enter Tryd.func87, Tryd.ntmps87
    go_wp2_with fail
    refine (number_bad l a c hc p _ B).mono ?_
    rintro e w1 ⟨rfl, nq, rfl⟩
    go_wp2_with fail
    go_loopw [9, 11, 12] (fun s9 s11 s12 wr => s9 = .int .i64 (c) ∧ s11 = .slice none 0 0 ∧ s12 = .int .i64 (0) ∧ wr = w.drewN nq) (fun _ _ _ _ => 0)
    case atStart => exact ⟨rfl, rfl, rfl, rfl⟩
    case round =>
      obtain ⟨rfl, rfl, rfl, rfl⟩ := hrel
      go_wp2_with fail
      refine (refused_no l a a c c hc p _ (B.drewN nq)).mono ?_
      rintro e w2 ⟨rfl, rfl⟩
      go_wp2_with fail
      go_ret
      exact ⟨.slice none 0 0, rfl, SRow.nil _ _, R.drewN nq, (Mod.refl _ _).drewN nq⟩
end Go.Proofs.YtmldonbmjgelnaaDoor
