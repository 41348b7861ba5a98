/- JNextP, RListL, MRow, MEnc. -/
import Derived.Test.YthgjdaomcpinaaaGreatDoorMp19
set_option linter.unnecessarySimpa false
set_option linter.unusedSimpArgs false
set_option linter.unusedVariables false
set_option maxRecDepth 100000
set_option maxHeartbeats 32000000
namespace Go.Proofs.YthgjdaomcpinaaaGreatDoor
open Go.RowKit Pl
namespace Pl
def nText (s : Bs) : Bs × Bs × Int := mText s 0 524288
def nSum (s : Bs) : Bs × Bs × Int := mBytes (nText s).2.1 (nText s).2.2 4
def nLong (s : Bs) : Nat := s.length - (nText s).2.1.length
def nList (s : Bs) : List Bs × Bs × Int := mList (nText s).1 0 1024 65536
def nextP (s : Bs) : Option (List Bs × Nat) :=
 if (nSum s).2.2 = 0 ∧ (sumP (s.take (nLong s))).take 4 = (nSum s).1 ∧ mEnd (nList s).2.1 (nList s).2.2 = 0 then some ((nList s).1, nLong s + 4) else none
theorem nText_len (s : Bs) : (nText s).2.1.length ≤ s.length := by
 unfold nText mText
 rw [if_neg (by simp)]
 split
 ·exact Nat.le_refl _
 ·rename_i h
  have h0 : (tx s 524288).2.2 = 0 := by simpa using h
  unfold tx at h0 ⊢
  split at h0
  ·rename_i h1; exact absurd h0 h1
  ·rename_i h1
   have h1' : (take s).2.2 = 0 := by simpa using h1
   obtain ⟨_, k, _, hk, e⟩ := take_le s h1'
   rw [if_neg h1]
   split at h0
   ·exact absurd h0 (by decide)
   ·rename_i h2
    rw [if_neg h2]
    split at h0
    ·exact absurd h0 (by decide)
    ·rename_i h3
     rw [if_neg h3]
     simp only [List.length_drop, e]
     omega
theorem lGo_all (each : Int) : ∀ (l : List Bs) (r : Bs), (∀ x ∈ l, x.length < 9223372036854775808 ∧ (x.length : Int) ≤ each) → lGo each l.length (listB l ++ r) = (l, r, 0)
 | [], r, _ => rfl
 | x :: l, r, h => by
  obtain ⟨h1, h2⟩ := h x (by simp)
  have ht := tx_text x each h1 h2 (listB l ++ r)
  show lGo each (l.length + 1) (text x ++ listB l ++ r) = _
  rw [List.append_assoc, lGo_step _ _ _ (by rw [ht]), ht, lGo_all each l r (fun y hy => h y (by simp [hy]))]
theorem mList_all (l : List Bs) (most each : Int) (hl : (l.length : Int) ≤ most) (h9 : l.length < 9223372036854775808) (h : ∀ x ∈ l, x.length < 9223372036854775808 ∧ (x.length : Int) ≤ each) (r : Bs) : mList (encS l ++ r) 0 most each = (l, r, 0) := by
 have ht : take (encS l ++ r) = (l.length, listB l ++ r, 0) := by rw [encS, List.append_assoc, take_num _ (by omega)]
 rw [mList_in _ _ _ (by rw [ht]) (by rw [ht]; simp; omega), ht]
 simp only
 rw [lGo_all each l r h]
 simp [mListIn]
theorem may_parts {l : List Bs} (h : mayR l = true) : l.length ≤ 1024 ∧ (∀ x ∈ l, x.length ≤ 65536) ∧ (encS l).length ≤ 524288 := by
 unfold mayR at h
 simp only [Bool.and_eq_true, decide_eq_true_eq, List.all_eq_true] at h
 exact ⟨h.1.1, h.1.2, h.2⟩
theorem sum4_len (s : Bs) : ((sumP s).take 4).length = 4 := by
 have := sumP_len s
 rw [List.length_take]
 omega
theorem nText_rec {l : List Bs} (h : mayR l = true) (r : Bs) : nText (text (encS l) ++ r) = (encS l, r, 0) := by
 obtain ⟨h1, h2, h3⟩ := may_parts h
 exact mText_text _ _ (by omega) (by omega) _
theorem nextP_rec {l : List Bs} (h : mayR l = true) (r : Bs) : nextP (recP l ++ r) = some (l, (recP l).length) := by
 obtain ⟨h1, h2, h3⟩ := may_parts h
 have hs4 := sum4_len (text (encS l))
 have e0 : recP l ++ r = text (encS l) ++ ((sumP (text (encS l))).take 4 ++ r) := by unfold recP; rw [List.append_assoc]
 have e1 := nText_rec h ((sumP (text (encS l))).take 4 ++ r)
 have hl : (recP l).length = (text (encS l)).length + 4 := by unfold recP; rw [List.length_append, hs4]
 have e2 : nSum (recP l ++ r) = ((sumP (text (encS l))).take 4, r, 0) := by
  unfold nSum
  rw [e0, e1]
  exact mBytes_app _ 4 hs4 r
 have e3 : nLong (recP l ++ r) = (text (encS l)).length := by
  unfold nLong
  rw [e0, e1]
  simp only [List.length_append]
  omega
 have e4 : nList (recP l ++ r) = (l, [], 0) := by
  unfold nList
  rw [e0, e1]
  have := mList_all l 1024 65536 (by omega) (by omega) (fun x hx => by have := h2 x hx; omega) []
  rw [List.append_nil] at this
  exact this
 unfold nextP
 rw [e2, e3, e4, if_pos, hl]
 refine ⟨rfl, ?_, rfl⟩
 rw [e0, List.take_left]
theorem tx_cut (E : Bs) (most : Int) (h : E.length < 9223372036854775808) (hm : (E.length : Int) ≤ most) (h9 : most ≤ 1000000) (n : Nat) (hn : n < (text E).length) : (tx ((text E).take n) most).2.2 ≠ 0 := by
 intro h0
 obtain ⟨e1, e3⟩ := tx_eats _ most h0
 have e4 := tx_text E most h hm []
 rw [List.append_nil] at e4
 have e5 : text E = text (tx ((text E).take n) most).1 ++ ((tx ((text E).take n) most).2.1 ++ (text E).drop n) := by
  rw [← List.append_assoc, ← e1, List.take_append_drop]
 have e6 := tx_text (tx ((text E).take n) most).1 most (by omega) e3 ((tx ((text E).take n) most).2.1 ++ (text E).drop n)
 rw [← e5, e4] at e6
 injection e6 with _ e6
 injection e6 with e6 _
 have := congrArg List.length e6
 simp only [List.length_nil, List.length_append, List.length_drop] at this
 omega
theorem nextP_cut {l : List Bs} (h : mayR l = true) (n : Nat) (hn : n < (recP l).length) : nextP ((recP l).take n) = none := by
 obtain ⟨h1, h2, h3⟩ := may_parts h
 have hs4 := sum4_len (text (encS l))
 have hl : (recP l).length = (text (encS l)).length + 4 := by unfold recP; rw [List.length_append, hs4]
 unfold nextP
 rw [if_neg]
 rintro ⟨h0, _⟩
 by_cases hT : n < (text (encS l)).length
 ·have e0 : (recP l).take n = (text (encS l)).take n := by unfold recP; rw [List.take_append_of_le_length (by omega)]
  have hc := tx_cut (encS l) 524288 (by omega) (by omega) (by omega) n hT
  rw [e0] at h0
  unfold nSum nText mText at h0
  rw [if_neg (by simp), if_pos hc] at h0
  unfold mBytes at h0
  rw [if_pos hc] at h0
  exact hc h0
 ·have e0 : (recP l).take n = text (encS l) ++ ((sumP (text (encS l))).take 4).take (n - (text (encS l)).length) := by
   unfold recP
   rw [List.take_append, List.take_of_length_le (by omega)]
  have hk : (((sumP (text (encS l))).take 4).take (n - (text (encS l)).length)).length < 4 := by rw [List.length_take]; omega
  unfold nSum at h0
  rw [e0, nText_rec h] at h0
  generalize ((sumP (text (encS l))).take 4).take (n - (text (encS l)).length) = x at *
  unfold mBytes at h0
  simp only at h0
  rw [if_neg (by simp), if_neg (by omega), if_pos (by omega)] at h0
  simp at h0
theorem nextP_nil : nextP [] = none := by
 unfold nextP
 rw [if_neg]
 rintro ⟨h, _⟩
 exact absurd h (by decide)
def recsP (B : List (List Bs)) : Bs := (B.map recP).flatten
theorem recsP_cons (b : List Bs) (B : List (List Bs)) : recsP (b :: B) = recP b ++ recsP B := rfl
theorem recsP_app (A B : List (List Bs)) : recsP (A ++ B) = recsP A ++ recsP B := by unfold recsP; rw [List.map_append, List.flatten_append]
theorem recsP_snoc (A : List (List Bs)) (b : List Bs) : recsP (A ++ [b]) = recsP A ++ recP b := by rw [recsP_app]; simp [recsP]
theorem recP_pos (b : List Bs) : 4 ≤ (recP b).length := by
 have := sum4_len (text (encS b))
 unfold recP
 rw [List.length_append]
 omega
end Pl
end Go.Proofs.YthgjdaomcpinaaaGreatDoor
namespace Go.Proofs.YthgjdaomcpinaaaGreatDoor
open Go.RowKit Pl
theorem rlistL_any (s : Bs) (c most each : Int) (p : Nat) (w : World) (R : Rdr w p s c) (hm : most ≤ 100000) :
  Calls Tryz.prog 175 #[.pointer (some ⟨p, 0, none⟩), .int .i64 most, .int .i64 each] w fun e w' => ∃ v, e = .returned v ∧ SRow w' w.heap.size v (mList s c most each).1 ∧ Rdr w' p (mList s c most each).2.1 (mList s c most each).2.2 ∧ Mod [p] w w' := by
 obtain ⟨l, a, h1, h2, rfl, B⟩ := id R
 obtain ⟨b1, b2, b3⟩ := id B
 by_cases hc : c = 0
 ·subst hc
  have hfl : a ≤ 9223372036854775807 := by omega
  by_cases he : (Pl.take (l.drop a)).2.2 = 0
  ·by_cases hmo : most < (Pl.take (l.drop a)).1
   ·rw [mList_long _ _ _ he hmo]
    have hd : decide (most < ((Pl.take (l.drop a)).1 : Int)) = true := by simpa using hmo
    go_enter Tryz.func175, Tryz.ntmps175
    go_wp2_with fail
    refine (number_ok l a p _ h1 h2 B).mono ?_
    rintro e w1 ⟨rfl, ⟨x, hx1, hx2, B1, hx3⟩, m1⟩
    rw [he]
    clear hx3 he hx2 b1 b2 b3
    generalize (Pl.take (l.drop a)).1 = n at *
    go_wp2_with fail
    go_loopw [9, 11, 12] (fun s9 s11 s12 wr => s9 = .int .i64 2 ∧ s11 = .slice none 0 0 ∧ s12 = .int .i64 0 ∧ wr = w1) (fun _ _ _ _ => 0)
    case atStart => exact ⟨rfl, rfl, rfl, rfl⟩
    case round =>
     obtain ⟨rfl, rfl, rfl, rfl⟩ := hrel
     go_wp2_with fail
     all_goals
      refine (refused_yes l x a 2 p _ B1).mono ?_
      rintro e w2 ⟨rfl, B2, m2⟩
      go_wp2_with fail
      go_ret
      exact ⟨.slice none 0 0, rfl, SRow.nil _ _, ⟨l, a, h1, h2, rfl, B2⟩, m1.trans m2⟩
   ·generalize hr : mList (l.drop a) 0 most each = r
    have HR : Hid (mListIn (l.drop a) (lGo each (Pl.take (l.drop a)).1 (Pl.take (l.drop a)).2.1) = r) := Lib.hid (by rw [← hr, mList_in _ _ _ he hmo])
    clear hr
    have hd : decide (most < ((Pl.take (l.drop a)).1 : Int)) = false := by simpa using hmo
    go_enter Tryz.func175, Tryz.ntmps175
    go_wp2_with fail
    refine (number_ok l a p _ h1 h2 B).mono ?_
    rintro e w1 ⟨rfl, ⟨x0, hx1, hx2, B1, hx3⟩, m1⟩
    have HX := Lib.hid (hx3 he)
    rw [he]
    clear hx3 he hx2 b1 b2 b3
    have hn1 : (Pl.take (l.drop a)).1 ≤ 100000 := by omega
    generalize (Pl.take (l.drop a)).1 = n at *
    generalize (Pl.take (l.drop a)).2.1 = s0 at *
    go_wp2_with fail
    go_loopw [9, 11, 12] (fun s9 s11 s12 wr => ∃ (i x : Nat) (e : Int) (acc : List Bs), i ≤ n ∧ acc.length ≤ i ∧ s12 = .int .i64 i ∧ s9 = .int .i64 e ∧ SRow wr w.heap.size s11 acc ∧ x ≤ l.length ∧ Blk wr p #[.string ⟨List.toArray l⟩, .int .i64 x, .int .i64 0] ∧ Mod [p] w wr ∧
      Hid ((e = 0 → lGo each n s0 = (acc ++ (lGo each (n - i) (l.drop x)).1, (lGo each (n - i) (l.drop x)).2)) ∧ (e ≠ 0 → (lGo each n s0).2.2 = e))) (fun _ _ s12 _ => n - (intOf s12).toNat)
    case atStart => exact ⟨0, x0, 0, [], by omega, by simp, rfl, rfl, SRow.nil _ _, hx1, B1, m1, Lib.hid ⟨fun _ => by rw [HX.out]; simp, fun h => absurd rfl h⟩⟩
    case round =>
     clear m1 B1 hx1 HX
     obtain ⟨i, x, e, acc, hi, hac, rfl, rfl, hS, hx1, B1, m1, HG⟩ := hrel
     obtain ⟨b1, b2, b3⟩ := id B1
     have hpw : p < w.heap.size := B.lt
     by_cases he : e = 0
     ·subst he
      by_cases hlt : i < n
      ·have hlt' : (i : Int) < (n : Int) := by omega
       have hG := HG.out.1 rfl
       obtain ⟨k, hk⟩ : ∃ k, n - i = k + 1 := ⟨n - i - 1, by omega⟩
       rw [hk] at hG
       have HS := Lib.hid (lGo_step each k (l.drop x))
       have HB := Lib.hid (lGo_bad each k (l.drop x))
       have HK := Lib.hid (show n - (i + 1) = k by omega)
       have HGG := Lib.hid hG
       clear hG hk HG
       go_wp2_with fail
       refine (rtext_in l x each p _ h1 hx1 B1).mono ?_
       rintro e w2 ⟨rfl, ⟨y, hy1, B2, hy3⟩, m2⟩
       have hS2 := hS.mod m2 hpw
       have HY := Lib.hid hy3
       clear hy3
       by_cases ht : (tx (l.drop x) each).2.2 = 0
       ·have HT := Lib.hid ht
        have hsz := (m1.trans m2).size
        rw [ht]
        clear ht
        go_wp2_with (first
         | (at_builtin; refine wpList_appS rfl (.tmp 49) (.tmp 51) rfl w.heap.size _ acc rfl (hS2.alloc _) w2.heap.size 0 1 1 [(tx (l.drop x) each).1] rfl rfl (ssrc1 _ _ _) (by simp; omega) (by simp; omega) ?_; rintro v' w7 hS7 hb7)
         | fail)
        have m7 : Mod [p] w w7 := ((m1.trans m2).alloc _).grow hb7
        have B7 : Blk w7 p #[.string ⟨List.toArray l⟩, .int .i64 y, .int .i64 0] := (B2.alloc _).of_block (hb7.block p hpw) hb7.size
        refine ⟨⟨i + 1, y, 0, acc ++ [(tx (l.drop x) each).1], by omega, by simp; omega, by go_num, rfl, hS7, hy1, B7, m7, Lib.hid ⟨fun _ => ?_, fun h => absurd rfl h⟩⟩, by simp [intOf]; omega⟩
        rw [HGG.out, HS.out HT.out, HK.out, HY.out HT.out]
        simp
       ·have hc2 : ((tx (l.drop x) each).2.2 == 0) = false := by simpa using ht
        have HT := Lib.hid ht
        generalize he2 : (tx (l.drop x) each).2.2 = e2 at *
        have hte : ¬ e2 = 0 := ht
        have HE := Lib.hid he2
        clear he2
        go_wp2_with fail
        refine ⟨⟨i + 1, y, e2, acc, by omega, by omega, by go_num, rfl, hS2, hy1, B2, m1.trans m2, Lib.hid ⟨fun h => absurd h HT.out, fun _ => ?_⟩⟩, by simp [intOf]; omega⟩
        rw [HGG.out]
        exact HB.out HT.out
      ·obtain rfl : i = n := by omega
       have hG := HG.out.1 rfl
       rw [Nat.sub_self, lGo, List.append_nil] at hG
       have HZ : Hid ((acc, l.drop x, (0 : Int)) = r) := Lib.hid (by rw [← HR.out, hG]; simp [mListIn])
       clear HG hG HR
       go_wp2_with fail
       all_goals (go_ret; refine ⟨_, rfl, ?_, ?_, m1⟩)
       ·rw [← HZ.out]; exact hS
       ·rw [← HZ.out]; exact ⟨l, x, h1, hx1, rfl, B1⟩
     ·have HZ : Hid (([], l.drop a, e) = r) := Lib.hid (by rw [← HR.out]; unfold mListIn; rw [HG.out.2 he, if_pos he])
      have hc2 : (e != 0) = true := by simpa using he
      have hc3 : (e == 0) = false := by simpa using he
      clear HG HR
      go_wp2_with fail
      all_goals
       refine (refused_yes l x a e p _ B1).mono ?_
       rintro e w2 ⟨rfl, B2, m2⟩
       go_wp2_with fail
       go_ret
       refine ⟨.slice none 0 0, rfl, ?_, ?_, m1.trans m2⟩
       ·rw [← HZ.out]; exact SRow.nil _ _
       ·rw [← HZ.out]; exact ⟨l, a, h1, h2, rfl, B2⟩
  ·rw [mList_bad _ _ _ he]
   generalize he0 : (Pl.take (l.drop a)).2.2 = e0 at *
   have HE := Lib.hid he0
   clear he0
   have hc2 : (e0 != 0) = true := by simpa using he
   have hc3 : (e0 == 0) = false := by simpa using he
   go_enter Tryz.func175, Tryz.ntmps175
   go_wp2_with fail
   refine (number_ok l a p _ h1 h2 B).mono ?_
   rintro e w1 ⟨rfl, ⟨x, hx1, hx2, B1, hx3⟩, m1⟩
   rw [HE.out]
   clear hx3 hx2 b1 b2 b3 HE
   generalize (Pl.take (l.drop a)).1 = n at *
   go_wp2_with fail
   go_loopw [9, 11, 12] (fun s9 s11 s12 wr => s9 = .int .i64 e0 ∧ s11 = .slice none 0 0 ∧ s12 = .int .i64 0 ∧ wr = w1) (fun _ _ _ _ => 0)
   case atStart => exact ⟨rfl, rfl, rfl, rfl⟩
   case round =>
    obtain ⟨rfl, rfl, rfl, rfl⟩ := hrel
    go_wp2_with fail
    all_goals
     refine (refused_yes l x a e0 p _ B1).mono ?_
     rintro e w2 ⟨rfl, B2, m2⟩
     go_wp2_with fail
     go_ret
     exact ⟨.slice none 0 0, rfl, SRow.nil _ _, ⟨l, a, h1, h2, rfl, B2⟩, m1.trans m2⟩
 ·rw [mList_c _ _ _ _ hc]
  have hc2 : (c != 0) = true := by simpa using hc
  have hc3 : (c == 0) = false := by simpa using hc
  go_enter Tryz.func175, Tryz.ntmps175
  go_wp2_with fail
  refine (number_bad l a c hc p _ B).mono ?_
  rintro e w1 ⟨rfl, nq, rfl⟩
  go_wp2_with fail
  go_loopw [9, 11, 12] (fun s9 s11 s12 wr => s9 = .int .i64 c ∧ s11 = .slice none 0 0 ∧ s12 = .int .i64 0 ∧ wr = w.drewN nq) (fun _ _ _ _ => 0)
  case atStart => exact ⟨rfl, rfl, rfl, rfl⟩
  case round =>
   obtain ⟨rfl, rfl, rfl, rfl⟩ := hrel
   go_wp2_with fail
   refine (refused_no l a a c c hc p _ (B.drewN nq)).mono ?_
   rintro e w2 ⟨rfl, rfl⟩
   go_wp2_with fail
   go_ret
   exact ⟨.slice none 0 0, rfl, SRow.nil _ _, R.drewN nq, (Mod.refl _ _).drewN nq⟩
end Go.Proofs.YthgjdaomcpinaaaGreatDoor
namespace Go.Proofs.YthgjdaomcpinaaaGreatDoor
open Go.RowKit Pl
theorem infoMem : (Tryz.prog.info? 130).map (fun i => (i.zero, i.size, i.bytes)) = some (some (.agg #[.string ⟨#[]⟩, .int .i64 0]), 2, 24) := by kernel_rfl
def mv : List (Bs × Int) → List Value
 | [] => []
 | x :: r => .string ⟨List.toArray x.1⟩ :: .int .i64 x.2 :: mv r
theorem mv_len (l : List (Bs × Int)) : (mv l).length = l.length * 2 := by
 induction l with
 | nil => rfl
 | cons x r ih => simp only [mv, List.length_cons, ih]; omega
theorem mv_app (a b : List (Bs × Int)) : mv (a ++ b) = mv a ++ mv b := by
 induction a with
 | nil => rfl
 | cons x r ih => simp [mv, ih]
theorem mv_at : ∀ (l : List (Bs × Int)) (i : Nat), i < l.length → (mv l)[i * 2]? = some (.string ⟨List.toArray ((l.getD i ([], 0)).1)⟩) ∧ (mv l)[i * 2 + 1]? = some (.int .i64 ((l.getD i ([], 0)).2))
 | x :: r, 0, _ => ⟨rfl, rfl⟩
 | x :: r, i + 1, hi => by
  have h := mv_at r i (by simpa using hi)
  rw [show (i + 1) * 2 = i * 2 + 1 + 1 from by omega]
  simpa [mv] using h
theorem mone : ∀ (l : List (Bs × Int)), ∀ u ∈ mv l, u.oneCell' = true
 | [], u, h => by simp [mv] at h
 | x :: r, u, h => by
  simp only [mv, List.mem_cons] at h
  rcases h with rfl | rfl | h
  ·rfl
  ·rfl
  ·exact mone r u h
def MRow (w : World) (base : Nat) (v : Value) (l : List (Bs × Int)) : Prop := w.ownsRow base 130 2 v l.length (mv l)
theorem MRow.nil (w : World) (base : Nat) : MRow w base (.slice none 0 0) [] := ⟨rfl, .inl ⟨rfl, rfl⟩⟩
theorem MRow.cells {w : World} {base : Nat} {v : Value} {l : List (Bs × Int)} (h : MRow w base v l) :
  (v = .slice none 0 0 ∧ l = []) ∨ ∃ g cap, v = .slice (some ⟨g, 0, none⟩) l.length cap ∧ base ≤ g ∧ g < w.heap.size ∧ l.length ≤ cap ∧ cap ≤ maxLen ∧ MSrc w g 0 l ∧ ∀ o, w.frozen? ⟨g, o, none⟩ = false := by
 rcases h.2 with ⟨h1, h2⟩ | ⟨g, cap, cur, hv, hb, hg, hn, hm, hc, ht⟩
 ·exact .inl ⟨h1, List.length_eq_zero_iff.1 h2⟩
 ·refine .inr ⟨g, cap, hv, hb, ?_, hn, hm, fun i hi => ?_, fun o => ?_⟩
  ·rcases Nat.lt_or_ge g w.heap.size with hlt | hge
   ·exact hlt
   ·rw [Array.getElem?_eq_none hge] at hg; cases hg
  ·have h1 : ∀ j, j < l.length * 2 → w.cell? ⟨g, 0 + j, none⟩ = (mv l)[j]? := by
    intro j hj
    rw [← ht, List.getElem?_take, if_pos hj]
    simp [World.cell?, hg]
   obtain ⟨h2, h3⟩ := mv_at l i hi
   exact ⟨(h1 (i * 2) (by omega)).trans h2, (h1 (i * 2 + 1) (by omega)).trans h3⟩
  ·simp [World.frozen?, hg]
theorem MRow.form {w : World} {base : Nat} {v : Value} {l : List (Bs × Int)} (h : MRow w base v l) : ∃ (a : Option Addr) (cap : Nat), v = .slice a l.length cap := by
 rcases h.cells with ⟨rfl, rfl⟩ | ⟨g, cap, rfl, _⟩
 ·exact ⟨none, 0, rfl⟩
 ·exact ⟨_, cap, rfl⟩
theorem MRow.own {w : World} {base : Nat} {v : Value} {l : List (Bs × Int)} (h : MRow w base v l) : ∀ k, v.ownBlock = some k → base ≤ k := by
 intro k hk
 rcases h.cells with ⟨rfl, _⟩ | ⟨g, cap, rfl, hb, _⟩
 ·cases hk
 ·cases hk; exact hb
theorem MRow.ms {w : World} {base : Nat} {v : Value} {l : List (Bs × Int)} (h : MRow w base v l) : MS w v l := by
 rcases h.cells with ⟨rfl, rfl⟩ | ⟨g, cap, h1, h2, h3, h4, h5, h6, h7⟩
 ·exact ⟨none, 0, rfl, Nat.le_refl _, by unfold maxLen; omega, fun h => absurd rfl h⟩
 ·exact ⟨_, cap, h1, h4, h5, fun _ => ⟨g, 0, rfl, h3, h6⟩⟩
theorem MRow.kept {w w' : World} {base : Nat} {v : Value} {l : List (Bs × Int)} (h : MRow w base v l) (hb : ∀ k, v.ownBlock = some k → w'.heap[k]? = w.heap[k]?) : MRow w' base v l := by
 refine ⟨h.1, h.2.imp id ?_⟩
 rintro ⟨g, cap, cur, hv, h1, h2, h3⟩
 subst hv
 exact ⟨g, cap, cur, rfl, h1, (hb g rfl).trans h2, h3⟩
theorem MRow.keep {W w : World} {b : Nat} {v : Value} {l : List (Bs × Int)} (h : MRow W b v l) (hb : Below W.heap.size W w) : MRow w b v l := by
 refine h.kept (fun k hk => hb.block k ?_)
 rcases h.cells with ⟨rfl, _⟩ | ⟨g, cap, rfl, _, hg, _⟩
 ·cases hk
 ·cases hk; exact hg
theorem msrc1 (w : World) (n : Bs) (p : Int) (t : TypeId) : MSrc (w.alloc (.cells #[.string ⟨List.toArray n⟩, .int .i64 p] t)) w.heap.size 0 [(n, p)] := by
 intro i hi
 have : i = 0 := by simp at hi; omega
 subst this
 exact ⟨by simp, by simp⟩
theorem msrc_news {w : World} {g o : Nat} {l : List (Bs × Int)} (h : MSrc w g o l) : ∀ j u, (mv l)[j]? = some u → w.cell? ((⟨g, o, none⟩ : Addr).add j) = some u := by
 intro j u hj
 have hjl : j < l.length * 2 := by
  rcases Nat.lt_or_ge j (l.length * 2) with hlt | hge
  ·exact hlt
  ·rw [List.getElem?_eq_none (by rw [mv_len]; exact hge)] at hj; cases hj
 have hadd : (⟨g, o, none⟩ : Addr).add j = ⟨g, o + j, none⟩ := by unfold Addr.add; split <;> simp_all
 rw [hadd]
 obtain ⟨i, hi | hi⟩ : ∃ i, j = i * 2 ∨ j = i * 2 + 1 := ⟨j / 2, by omega⟩
 ·subst hi
  exact (h i (by omega)).1.trans (((mv_at l i (by omega)).1).symm.trans hj)
 ·subst hi
  have := (h i (by omega)).2
  rw [Nat.add_assoc] at this
  exact this.trans (((mv_at l i (by omega)).2).symm.trans hj)
section
variable {ops : Array Oper} {o : Oper} {a : Act} {w : World} {Q : Exit → Act → World → Prop}
theorem wp_appM {K : Act → World → Prop} (s x : Operand)
  (ho : o.op = .call { callee := .builtin .append, args := #[s, x], argTypes := #[25, 25] })
  (base : Nat) (v : Value) (l : List (Bs × Int)) (hs : a.eval s = v) (hown : MRow w base v l)
  (g off m c : Nat) (news : List (Bs × Int)) (hx : a.eval x = .slice (some ⟨g, off, none⟩) m c) (hm : news.length = m) (hsrc : MSrc w g off news)
  (hlen : l.length + m ≤ 1099511627000) (hbase : base ≤ w.heap.size)
  (h : ∀ v' w', MRow w' base v' (l ++ news) → Below base w w' → K (a.put o.dst v') w') : o.wp Tryz.prog a w K Q := by
 obtain ⟨i0, hi, hz0, hz1, hz2⟩ := info_parts infoMem
 refine wp_append_own w s x 25 ho base 130 i0 (.agg #[.string ⟨#[]⟩, .int .i64 0]) 2 24 Tryz.underlying25 hi hz0 hz1 hz2 rfl (by decide) v l.length (mv l) hs hown ⟨g, off, none⟩ m c (mv news) hx (by rw [mv_len, hm]) (msrc_news hsrc) (mone news)
  (by unfold maxLen; omega) (by omega) hbase (fun v' w' h2 h3 _ => h v' w' ?_ (grown_below h3 hbase hown.own))
 unfold MRow
 rw [List.length_append, hm, mv_app]
 exact h2
theorem wpList_appM {rest : List Oper} (hgd : o.guard = none) (s x : Operand)
  (ho : o.op = .call { callee := .builtin .append, args := #[s, x], argTypes := #[25, 25] })
  (base : Nat) (v : Value) (l : List (Bs × Int)) (hs : a.eval s = v) (hown : MRow w base v l)
  (g off m c : Nat) (news : List (Bs × Int)) (hx : a.eval x = .slice (some ⟨g, off, none⟩) m c) (hm : news.length = m) (hsrc : MSrc w g off news)
  (hlen : l.length + m ≤ 1099511627000) (hbase : base ≤ w.heap.size)
  (h : ∀ v' w', MRow w' base v' (l ++ news) → Below base w w' → wpList Tryz.prog ops Q rest (a.put o.dst v') w') : wpList Tryz.prog ops Q (o :: rest) a w :=
 wpList_plain hgd fun _ hK => wp_appM s x ho base v l hs hown g off m c news hx hm hsrc hlen hbase fun v' w' h2 h3 => hK _ _ (h v' w' h2 h3)
end
end Go.Proofs.YthgjdaomcpinaaaGreatDoor
namespace Go.Proofs.YthgjdaomcpinaaaGreatDoor
open Go.RowKit Pl
namespace Pl
def memsB : List (Bs × Int) → Bs
 | [] => []
 | (n, p) :: r => text n ++ num p.toNat ++ memsB r
def encM (l : List (Bs × Int)) : Bs := num l.length ++ memsB l
def encMR (l : List (Bs × Int)) : Bs × Int := if chkM l then (encM l, 0) else ([], 50)
theorem memsB_app (a : List (Bs × Int)) (x : Bs × Int) : memsB (a ++ [x]) = memsB a ++ (text x.1 ++ num x.2.toNat) := by
 induction a with
 | nil => simp [memsB]
 | cons y r ih => simp [memsB, ih, List.append_assoc]
theorem memsB_len (l : List (Bs × Int)) (h : ∀ i, i < l.length → (l.getD i ([], 0)).1.length ≤ 6) : ∀ k, k ≤ l.length → (memsB (l.take k)).length ≤ 24 * k
 | 0, _ => by simp [memsB]
 | k + 1, hk => by
  have h1 := memsB_len l h k (by omega)
  have h2 := h k (by omega)
  rw [take_getD l k (by omega), memsB_app]
  have h3 := num_len (l.getD k ([], 0)).2.toNat
  have h4 := num_len (l.getD k ([], 0)).1.length
  simp only [List.length_append, text]
  omega
end Pl
theorem mencode_any (v : Value) (l : List (Bs × Int)) (w : World) (hv : MS w v l) :
  Calls Tryz.prog 48 #[v] w fun e w' => e = .returned (.tuple #[.string ⟨List.toArray ((encMR l).1)⟩, .int .i64 ((encMR l).2)]) ∧ Below w.heap.size w w' := by
 generalize hr : encMR l = r
 have HR := Lib.hid hr
 clear hr
 obtain ⟨a, c, rfl⟩ := hv.form
 have hm := hv.small
 have hchk := mcheck_any _ l w hv
 have HV := Lib.hid hv
 clear hv
 cases hc : chkM l
 ·rw [hc] at hchk
  have HC := Lib.hid hchk
  have HR2 : Hid (([], 50) = r) := Lib.hid (by rw [← HR.out]; simp [encMR, hc])
  clear hchk hc HR HV
  go_enter Tryz.func48, Tryz.ntmps48
  go_wp2_with fail
  refine HC.out.mono ?_
  rintro e w1 ⟨rfl, hb⟩
  unfold setI
  go_wp2_with fail
  all_goals (go_ret2; refine ⟨?_, hb⟩; rw [← HR2.out]; rfl)
 ·rw [hc] at hchk
  have HC := Lib.hid hchk
  have HR2 : Hid ((encM l, 0) = r) := Lib.hid (by rw [← HR.out]; simp [encMR, hc])
  simp only [chkM, Bool.and_eq_true, decide_eq_true_eq] at hc
  have h7 := hc.1.2
  have HO := Lib.hid (okM_at l [] hc.2)
  have HB := Lib.hid (memsB_len l (fun i hi => (HO.out i hi).1))
  clear hchk hc HR
  go_enter Tryz.func48, Tryz.ntmps48
  go_wp2_with fail
  refine HC.out.mono ?_
  rintro e w1 ⟨rfl, hb⟩
  unfold setI
  go_wp2_with fail
  refine (cNum_any l.length (by omega) _).mono ?_
  rintro e w2 ⟨rfl, hb2⟩
  have hb3 := hb.trans (hb2.mono hb.size)
  go_wp2_with fail
  go_loopw [5, 24] (fun s5 s24 wr => ∃ i : Nat, i ≤ l.length ∧ s24 = .int .i64 i ∧ s5 = .string ⟨List.toArray (num l.length ++ memsB (l.take i))⟩ ∧ Below w.heap.size w wr) (fun _ s24 _ => l.length - (intOf s24).toNat)
  case atStart => exact ⟨0, by omega, rfl, by simp [memsB], hb3⟩
  case round =>
   obtain ⟨i, hi, rfl, rfl, hb⟩ := hrel
   obtain ⟨wq, h⟩ := Below.nm hb
   subst h
   by_cases hlt : i < l.length
   ·obtain ⟨g, off, rfl, hg, c1, c2⟩ := (HV.out.keep hb).at i hlt
    obtain ⟨o1, o2, o3⟩ := HO.out i hlt
    have hB := HB.out i (by omega)
    have hnx : num l.length ++ memsB (l.take (i + 1)) = num l.length ++ memsB (l.take i) ++ (text (l.getD i ([], 0)).1 ++ num (l.getD i ([], 0)).2.toNat) := by
     rw [take_getD l i hlt, memsB_app, List.append_assoc]
    have hn9 := num_len l.length
    have hs9 : (num l.length ++ memsB (l.take i)).length ≤ 200 := by rw [List.length_append]; omega
    generalize hx : l.getD i ([], 0) = x at *
    obtain ⟨n, p⟩ := x
    simp only at c1 c2 hnx o1 o2 o3
    obtain ⟨m, rfl⟩ : ∃ m : Nat, p = m := ⟨p.toNat, by omega⟩
    rw [Int.toNat_natCast] at hnx
    generalize num l.length ++ memsB (l.take i) = s at *
    have hm9 := num_len m
    have ht9 : (text n).length ≤ 15 := by have := num_len n.length; simp only [text, List.length_append]; omega
    have hcat : ¬ 9223372036854775807 < (text n).length + (num m).length := by omega
    have hcat2 : ¬ 9223372036854775807 < s.length + ((text n).length + (num m).length) := by omega
    clear hx hB HB
    go_wp2_with fail
    refine (cNum_any m (by omega) _).mono ?_
    rintro e w4 ⟨rfl, hb4⟩
    have c1' : w4.cell? ⟨wq.heap.size, 0, none⟩ = some (.string ⟨List.toArray n⟩) := (hb4.cell (p := ⟨wq.heap.size, 0, none⟩) (by simp)).trans (by simp)
    have hb5 := (Below.allocS hb (.cells #[.string ⟨List.toArray n⟩, .int .i64 m] 130)).trans (hb4.mono (by simp; have := hb.size; omega))
    go_wp2_with fail
    refine (ctext_any n (by omega) _).mono ?_
    rintro e w5 ⟨rfl, hb6⟩
    have hb7 := hb5.trans (hb6.mono hb5.size)
    go_wp2_with fail
    exact ⟨⟨i + 1, by omega, by go_num, by rw [hnx], hb7⟩, by simp [intOf]; omega⟩
   ·obtain rfl : i = l.length := by omega
    go_wp2_with fail
    all_goals (go_ret2; refine ⟨?_, hb⟩; rw [← HR2.out]; simp [encM])
theorem encM_len (l : List (Bs × Int)) (hc : chkM l = true) : (encM l).length ≤ 200 := by
 simp only [chkM, Bool.and_eq_true, decide_eq_true_eq] at hc
 have h7 := hc.1.2
 have h := memsB_len l (fun i hi => (okM_at l [] hc.2 i hi).1) l.length (by omega)
 rw [List.take_length] at h
 have hn9 := num_len l.length
 simp only [encM, List.length_append]
 omega
def dgM (l : List (Bs × Int)) : Bs := if chkM l then tagP 4 (encM l) else []
theorem mdigest_any (v : Value) (l : List (Bs × Int)) (w : World) (hv : MS w v l) (hk : KT w) :
  Calls Tryz.prog 67 #[v] w fun e w' => e = .returned (.string ⟨List.toArray (dgM l)⟩) ∧ Below w.heap.size w w' := by
 generalize hd : dgM l = d
 have HD := Lib.hid hd
 clear hd
 obtain ⟨a, c, rfl⟩ := hv.form
 have hm := hv.small
 have hen := mencode_any _ l w hv
 cases hc : chkM l
 ·rw [show encMR l = ([], 50) from by simp [encMR, hc]] at hen
  have HZ : Hid ([] = d) := Lib.hid (by rw [← HD.out]; simp [dgM, hc])
  have HE := Lib.hid hen
  clear hen hv HD hc
  go_enter Tryz.func67, Tryz.ntmps67
  go_wp2_with fail
  refine HE.out.mono ?_
  rintro e w1 ⟨rfl, hb⟩
  go_wp2_with fail
  all_goals (go_ret; refine ⟨?_, hb⟩; rw [← HZ.out]; rfl)
 ·rw [show encMR l = (encM l, 0) from by simp [encMR, hc]] at hen
  have HZ : Hid (tagP 4 (encM l) = d) := Lib.hid (by rw [← HD.out]; simp [dgM, hc])
  have hl := encM_len l hc
  have HE := Lib.hid hen
  clear hen hv HD hc
  generalize encM l = t at *
  go_enter Tryz.func67, Tryz.ntmps67
  go_wp2_with fail
  refine HE.out.mono ?_
  rintro e w1 ⟨rfl, hb⟩
  go_wp2_with fail
  refine (digsum_ok 4 (by omega) (by omega) t (by omega) _ (hk.keep hb)).mono ?_
  rintro e w2 ⟨rfl, hb2⟩
  go_wp2_with fail
  all_goals (go_ret; refine ⟨?_, hb.trans (hb2.mono hb.size)⟩; rw [← HZ.out]; rfl)
end Go.Proofs.YthgjdaomcpinaaaGreatDoor
