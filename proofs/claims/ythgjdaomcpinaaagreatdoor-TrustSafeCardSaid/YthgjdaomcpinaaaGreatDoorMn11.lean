/- JNextP, DiskC, DiskD, Shelf9. -/
import Derived.Test.YthgjdaomcpinaaaGreatDoorProg
import Derived.Shelf.SlIterI.Nil
import Derived.Shelf.SortM.Plain
import Derived.Shelf.SortM.SortNone
import Derived.Test.YthgjdaomcpinaaaGreatDoorMn6
import Derived.Test.YthgjdaomcpinaaaGreatDoorMn10
set_option linter.unnecessarySimpa false

/- Layer 32, plain: the batch of the record at the beginning; all batches that are whole; what was cut is none. -/
set_option linter.unusedSimpArgs false
set_option linter.unusedVariables false
namespace Go.Proofs.YthgjdaomcpinaaaGreatDoor
open Go.RowKit Pl

namespace Pl
/-- What is read of a record: its list's text; its sum; how long it is without the sum. -/
def nText (s : Bs) : Bs × Bs × Int := mText s 0 524288
def nSum (s : Bs) : Bs × Bs × Int := mBytes (nText s).2.1 (nText s).2.2 4
def nLong (s : Bs) : Nat := s.length - (nText s).2.1.length
def nList (s : Bs) : List Bs × Bs × Int := mList (nText s).1 0 1024 65536
/-- The batch of the record at the beginning, and how long that is. -/
def nextP (s : Bs) : Option (List Bs × Nat) :=
  if (nSum s).2.2 = 0 ∧ (sumP (s.take (nLong s))).take 4 = (nSum s).1 ∧ mEnd (nList s).2.1 (nList s).2.2 = 0 then some ((nList s).1, nLong s + 4) else none
theorem nText_len (s : Bs) : (nText s).2.1.length ≤ s.length := by
  unfold nText mText
  rw [if_neg (by simp)]
  split
  · exact Nat.le_refl _
  · rename_i h
    have h0 : (tx s 524288).2.2 = 0 := by simpa using h
    unfold tx at h0 ⊢
    split at h0
    · rename_i h1; exact absurd h0 h1
    · rename_i h1
      have h1' : (take s).2.2 = 0 := by simpa using h1
      obtain ⟨_, k, _, hk, e⟩ := take_le s h1'
      rw [if_neg h1]
      split at h0
      · exact absurd h0 (by decide)
      · rename_i h2
        rw [if_neg h2]
        split at h0
        · exact absurd h0 (by decide)
        · rename_i h3
          rw [if_neg h3]
          simp only [List.length_drop, e]
          omega
theorem lGo_all (each : Int) : ∀ (l : List Bs) (r : Bs), (∀ x ∈ l, x.length < 9223372036854775808 ∧ (x.length : Int) ≤ each) → lGo each l.length (listB l ++ r) = (l, r, 0)
  | [], r, _ => rfl
  | x :: l, r, h => by
    obtain ⟨h1, h2⟩ := h x (by simp)
    have ht := tx_text x each h1 h2 (listB l ++ r)
    show lGo each (l.length + 1) (text x ++ listB l ++ r) = _
    rw [List.append_assoc, lGo_step _ _ _ (by rw [ht]), ht, lGo_all each l r (fun y hy => h y (by simp [hy]))]
theorem mList_all (l : List Bs) (most each : Int) (hl : (l.length : Int) ≤ most) (h9 : l.length < 9223372036854775808) (h : ∀ x ∈ l, x.length < 9223372036854775808 ∧ (x.length : Int) ≤ each) (r : Bs) : mList (encS l ++ r) 0 most each = (l, r, 0) := by
  have ht : take (encS l ++ r) = (l.length, listB l ++ r, 0) := by rw [encS, List.append_assoc, take_num _ (by omega)]
  rw [mList_in _ _ _ (by rw [ht]) (by rw [ht]; simp; omega), ht]
  simp only
  rw [lGo_all each l r h]
  simp [mListIn]
theorem may_parts {l : List Bs} (h : mayR l = true) : l.length ≤ 1024 ∧ (∀ x ∈ l, x.length ≤ 65536) ∧ (encS l).length ≤ 524288 := by
  unfold mayR at h
  simp only [Bool.and_eq_true, decide_eq_true_eq, List.all_eq_true] at h
  exact ⟨h.1.1, h.1.2, h.2⟩
theorem sum4_len (s : Bs) : ((sumP s).take 4).length = 4 := by
  have := sumP_len s
  rw [List.length_take]
  omega
theorem nText_rec {l : List Bs} (h : mayR l = true) (r : Bs) : nText (text (encS l) ++ r) = (encS l, r, 0) := by
  obtain ⟨h1, h2, h3⟩ := may_parts h
  exact mText_text _ _ (by omega) (by omega) _
theorem nextP_rec {l : List Bs} (h : mayR l = true) (r : Bs) : nextP (recP l ++ r) = some (l, (recP l).length) := by
  obtain ⟨h1, h2, h3⟩ := may_parts h
  have hs4 := sum4_len (text (encS l))
  have e0 : recP l ++ r = text (encS l) ++ ((sumP (text (encS l))).take 4 ++ r) := by unfold recP; rw [List.append_assoc]
  have e1 := nText_rec h ((sumP (text (encS l))).take 4 ++ r)
  have hl : (recP l).length = (text (encS l)).length + 4 := by unfold recP; rw [List.length_append, hs4]
  have e2 : nSum (recP l ++ r) = ((sumP (text (encS l))).take 4, r, 0) := by
    unfold nSum
    rw [e0, e1]
    exact mBytes_app _ 4 hs4 r
  have e3 : nLong (recP l ++ r) = (text (encS l)).length := by
    unfold nLong
    rw [e0, e1]
    simp only [List.length_append]
    omega
  have e4 : nList (recP l ++ r) = (l, [], 0) := by
    unfold nList
    rw [e0, e1]
    have := mList_all l 1024 65536 (by omega) (by omega) (fun x hx => by have := h2 x hx; omega) []
    rw [List.append_nil] at this
    exact this
  unfold nextP
  rw [e2, e3, e4, if_pos, hl]
  refine ⟨rfl, ?_, rfl⟩
  rw [e0, List.take_left]
theorem tx_cut (E : Bs) (most : Int) (h : E.length < 9223372036854775808) (hm : (E.length : Int) ≤ most) (h9 : most ≤ 1000000) (n : Nat) (hn : n < (text E).length) : (tx ((text E).take n) most).2.2 ≠ 0 := by
  intro h0
  obtain ⟨e1, e3⟩ := tx_eats _ most h0
  have e4 := tx_text E most h hm []
  rw [List.append_nil] at e4
  have e5 : text E = text (tx ((text E).take n) most).1 ++ ((tx ((text E).take n) most).2.1 ++ (text E).drop n) := by
    rw [← List.append_assoc, ← e1, List.take_append_drop]
  have e6 := tx_text (tx ((text E).take n) most).1 most (by omega) e3 ((tx ((text E).take n) most).2.1 ++ (text E).drop n)
  rw [← e5, e4] at e6
  injection e6 with _ e6
  injection e6 with e6 _
  have := congrArg List.length e6
  simp only [List.length_nil, List.length_append, List.length_drop] at this
  omega
theorem nextP_cut {l : List Bs} (h : mayR l = true) (n : Nat) (hn : n < (recP l).length) : nextP ((recP l).take n) = none := by
  obtain ⟨h1, h2, h3⟩ := may_parts h
  have hs4 := sum4_len (text (encS l))
  have hl : (recP l).length = (text (encS l)).length + 4 := by unfold recP; rw [List.length_append, hs4]
  unfold nextP
  rw [if_neg]
  rintro ⟨h0, _⟩
  by_cases hT : n < (text (encS l)).length
  · have e0 : (recP l).take n = (text (encS l)).take n := by unfold recP; rw [List.take_append_of_le_length (by omega)]
    have hc := tx_cut (encS l) 524288 (by omega) (by omega) (by omega) n hT
    rw [e0] at h0
    unfold nSum nText mText at h0
    rw [if_neg (by simp), if_pos hc] at h0
    unfold mBytes at h0
    rw [if_pos hc] at h0
    exact hc h0
  · have e0 : (recP l).take n = text (encS l) ++ ((sumP (text (encS l))).take 4).take (n - (text (encS l)).length) := by
      unfold recP
      rw [List.take_append, List.take_of_length_le (by omega)]
    have hk : (((sumP (text (encS l))).take 4).take (n - (text (encS l)).length)).length < 4 := by rw [List.length_take]; omega
    unfold nSum at h0
    rw [e0, nText_rec h] at h0
    generalize ((sumP (text (encS l))).take 4).take (n - (text (encS l)).length) = x at *
    unfold mBytes at h0
    simp only at h0
    rw [if_neg (by simp), if_neg (by omega), if_pos (by omega)] at h0
    simp at h0
theorem nextP_nil : nextP [] = none := by
  unfold nextP
  rw [if_neg]
  rintro ⟨h, _⟩
  exact absurd h (by decide)
/-- Records one after the other. -/
def recsP (B : List (List Bs)) : Bs := (B.map recP).flatten
theorem recsP_cons (b : List Bs) (B : List (List Bs)) : recsP (b :: B) = recP b ++ recsP B := rfl
theorem recsP_app (A B : List (List Bs)) : recsP (A ++ B) = recsP A ++ recsP B := by unfold recsP; rw [List.map_append, List.flatten_append]
theorem recsP_snoc (A : List (List Bs)) (b : List Bs) : recsP (A ++ [b]) = recsP A ++ recP b := by rw [recsP_app]; simp [recsP]
theorem recP_pos (b : List Bs) : 4 ≤ (recP b).length := by
  have := sum4_len (text (encS b))
  unfold recP
  rw [List.length_append]
  omega
end Pl
end Go.Proofs.YthgjdaomcpinaaaGreatDoor

/- Layer 31: a disk: the program's walks of Fuse, Crash. -/
set_option linter.unusedSimpArgs false
set_option linter.unusedVariables false
namespace Go.Proofs.YthgjdaomcpinaaaGreatDoor
open Go.RowKit Pl

namespace Pl
def fuseD (d : Dk) (n : Int) : Dk := ⟨d.s, d.safe, d.room, max n (-1), d.down⟩
def crashN (d : Dk) (keep : Int) : Int := d.safe + min (max keep 0) ((d.s.length : Int) - d.safe)
def crashD (d : Dk) (keep : Int) : Dk := ⟨d.s.take (crashN d keep).toNat, crashN d keep, d.room, -1, false⟩
end Pl
theorem DB.take {w : World} {av : List Nat} {va : Option Addr} {c : Nat} {l : Bs} (h : DB w av (.slice va l.length c) l) {n : Nat} (hn : n ≤ l.length) : DB w av (.slice va n n) (l.take n) := by
  rcases h with ⟨e1, e2⟩ | ⟨g, cap, h1, h2, h3, h4, h5, h6, h7⟩
  · subst e2
    injection e1 with e1 _ e3
    obtain rfl : n = 0 := by simpa using hn
    subst e1
    exact .inl ⟨rfl, rfl⟩
  · injection h1 with h1 _ h1c
    subst h1 h1c
    have hl : (l.take n).length = n := by rw [List.length_take]; omega
    refine .inr ⟨g, n, by rw [hl], h2, h3, by omega, by omega, fun i hi => ?_, fun i hi => h7 i (by omega)⟩
    rw [hl] at hi
    rw [h6 i (by omega)]
    simp [List.getD, List.getElem?_take, hi]
set_option maxRecDepth 100000 in
set_option maxHeartbeats 1000000 in
theorem dfuse_any (av : List Nat) (p : Nat) (d : Dk) (n : Int) (w : World) (h : DkV w av p d) :
    Calls Tryz.prog 19 #[.pointer (some ⟨p, 0, none⟩), .int .i64 (n)] w fun e w' => e = .returned (.tuple #[]) ∧ DkV w' av p (fuseD d n) ∧ Mod [p] w w' := by
  obtain ⟨v, hv, B⟩ := h.row
  have HL := Lib.hid h.lt
  have HV := Lib.hid hv
  clear h hv
  obtain ⟨b1, b2, b3⟩ := id B
  go_enter Tryz.func19, Tryz.ntmps19
  go_wp2_with fail
  refine bodyPost_end (results_none rfl _ _ _) rfl ?_
  have hm := (Mod.refl [p] w).setCell (p := ⟨p, 3, none⟩) (.inl (by simp)) (.int .i64 (max n (-1)))
  exact ⟨rfl, ⟨HL.out, v, HV.out.mod hm HL.out, by simpa [fuseD] using B.set 3 (.int .i64 (max n (-1)))⟩, hm⟩
theorem crash_end {w : World} {av : List Nat} {p : Nat} {v0 vs : Value} {a1 a2 a3 : Value} {room : Int} {l : Bs} {n : Nat} (hp : p ∈ av) (hv : DB w av vs l) (B : Blk w p #[v0, a1, .int .i64 (room), a2, a3]) (nq : Nat) :
    DkV (((((w.drewN nq).setCell ⟨p, 0, none⟩ vs).setCell ⟨p, 1, none⟩ (.int .i64 ((n : Int)))).setCell ⟨p, 3, none⟩ (.int .i64 (-1))).setCell ⟨p, 4, none⟩ (.bool false)) av p ⟨l, (n : Int), room, -1, false⟩ ∧ Mod [p] w (((((w.drewN nq).setCell ⟨p, 0, none⟩ vs).setCell ⟨p, 1, none⟩ (.int .i64 ((n : Int)))).setCell ⟨p, 3, none⟩ (.int .i64 (-1))).setCell ⟨p, 4, none⟩ (.bool false)) := by
  have hm := (((((Mod.refl [p] w).drewN nq).setCell (p := ⟨p, 0, none⟩) (.inl (by simp)) vs).setCell (p := ⟨p, 1, none⟩) (.inl (by simp)) (.int .i64 ((n : Int)))).setCell (p := ⟨p, 3, none⟩) (.inl (by simp)) (.int .i64 (-1))).setCell (p := ⟨p, 4, none⟩) (.inl (by simp)) (.bool false)
  exact ⟨⟨hp, vs, hv.mod hm hp, by simpa using ((((B.drewN nq).set 0 vs).set 1 (.int .i64 ((n : Int)))).set 3 (.int .i64 (-1))).set 4 (.bool false)⟩, hm⟩
set_option maxRecDepth 100000 in
set_option maxHeartbeats 1000000 in
theorem dcrash_any (av : List Nat) (p : Nat) (d : Dk) (keep : Int) (hs : 0 ≤ d.safe ∧ d.safe ≤ (d.s.length : Int)) (hsl : d.s.length ≤ 1048576) (w : World) (h : DkV w av p d) :
    Calls Tryz.prog 26 #[.pointer (some ⟨p, 0, none⟩), .int .i64 (keep)] w fun e w' => e = .returned (.tuple #[]) ∧ DkV w' av p (crashD d keep) ∧ Mod [p] w w' := by
  obtain ⟨v, hv, B⟩ := h.row
  have HL := Lib.hid h.lt
  obtain ⟨va, vc, rfl⟩ := hv.form
  have HV := Lib.hid hv
  obtain ⟨n, hn⟩ : ∃ n : Nat, (n : Int) = crashN d keep := ⟨(crashN d keep).toNat, by unfold crashN; omega⟩
  have hnl : n ≤ d.s.length := by unfold crashN at hn; omega
  have HR : Hid (crashD d keep = ⟨d.s.take n, (n : Int), d.room, -1, false⟩) := Lib.hid (by unfold crashD; rw [← hn]; rfl)
  have hcap : d.s.length ≤ vc := by
    rcases hv with ⟨e1, e2⟩ | ⟨g, cap, h1, h2, h3, h4, h5, _⟩
    · rw [e2]; simp
    · injection h1 with _ _ h1c; subst h1c; exact h4
  have w1 : IntKind.i64.wrap ((d.s.length : Int) - d.safe) = (d.s.length : Int) - d.safe := by rw [IntKind.wrap_i64]; omega
  have w2 : IntKind.i64.wrap (d.safe + min (max keep 0) ((d.s.length : Int) - d.safe)) = (n : Int) := by unfold crashN at hn; rw [IntKind.wrap_i64]; omega
  have n1 : (0 : Int) ≤ (n : Int) ∧ (n : Int) ≤ (vc : Int) := by omega
  obtain ⟨b1, b2, b3⟩ := id B
  have hv2 := HV.out.take hnl
  clear h hv hn
  have hva : va = none ∨ ∃ g, va = some ⟨g, 0, none⟩ := by
    rcases HV.out with ⟨e1, e2⟩ | ⟨g, cap, h1, _⟩
    · injection e1 with e1; exact .inl e1
    · injection h1 with h1; exact .inr ⟨g, h1⟩
  have HB := Lib.hid B
  clear B
  rcases hva with rfl | ⟨g, rfl⟩
  all_goals
    go_enter Tryz.func26, Tryz.ntmps26
    go_wp2_with fail
    go_quiet (fail)
    go_wp2_with fail
    refine bodyPost_end (results_none rfl _ _ _) rfl ?_
    rw [HR.out]
    exact ⟨rfl, crash_end HL.out hv2 HB.out nq⟩
end Go.Proofs.YthgjdaomcpinaaaGreatDoor

/- Layer 31: a disk: the program's walk of Cut. -/
set_option linter.unusedSimpArgs false
set_option linter.unusedVariables false
namespace Go.Proofs.YthgjdaomcpinaaaGreatDoor
open Go.RowKit Pl

namespace Pl
def cutD (d : Dk) (n : Nat) : Dk × Int := if d.down then (d, 311) else if (burntD d).2 = 0 then (⟨d.s.take n, min d.safe (n : Int), d.room, (burntD d).1.fuse, d.down⟩, 0) else burntD d
end Pl
theorem cut_end {w : World} {av : List Nat} {p : Nat} {v0 vs : Value} {sf : Int} {a2 a3 a4 : Value} {l : Bs} {n : Nat} {room fuse : Int} {down : Bool} (hp : p ∈ av) (hv : DB w av vs l) (B : Blk w p #[v0, .int .i64 (sf), .int .i64 (room), .int .i64 (fuse), .bool down]) (x : Int) :
    DkV ((w.setCell ⟨p, 0, none⟩ vs).setCell ⟨p, 1, none⟩ (.int .i64 (x))) av p ⟨l, x, room, fuse, down⟩ ∧ Mod [p] w ((w.setCell ⟨p, 0, none⟩ vs).setCell ⟨p, 1, none⟩ (.int .i64 (x))) := by
  have hm := ((Mod.refl [p] w).setCell (p := ⟨p, 0, none⟩) (.inl (by simp)) vs).setCell (p := ⟨p, 1, none⟩) (.inl (by simp)) (.int .i64 (x))
  exact ⟨⟨hp, vs, hv.mod hm hp, by simpa using (B.set 0 vs).set 1 (.int .i64 (x))⟩, hm⟩
set_option maxRecDepth 100000 in
set_option maxHeartbeats 1000000 in
theorem dcut_any (av : List Nat) (p : Nat) (d : Dk) (n : Nat) (hn : n ≤ d.s.length) (hf : -9223372036854775808 ≤ d.fuse ∧ d.fuse ≤ 9223372036854775807) (hsl : d.s.length ≤ 1048576) (w : World) (h : DkV w av p d) :
    Calls Tryz.prog 123 #[.pointer (some ⟨p, 0, none⟩), .int .i64 (n)] w fun e w' => e = .returned (.int .i64 ((cutD d n).2)) ∧ DkV w' av p (cutD d n).1 ∧ Mod [p] w w' := by
  have hch := dchange_any av p d hf w h
  have H := Lib.hid h
  obtain ⟨v, hv, B⟩ := h.row
  obtain ⟨va, vc, rfl⟩ := hv.form
  obtain ⟨b1, b2, b3⟩ := id B
  cases hd : d.down
  · have hbs := fun h0 => burnt_same (d := d) h0
    have HS : Hid (cutD d n = if (burntD d).2 = 0 then (⟨d.s.take n, min d.safe (n : Int), d.room, (burntD d).1.fuse, d.down⟩, 0) else burntD d) := Lib.hid (by unfold cutD; rw [hd]; rfl)
    generalize cutD d n = R at *
    rw [hd] at b1
    have g1 : decide ((n : Int) < 0) = false := by rw [decide_eq_false_iff_not]; omega
    have g2 : decide ((d.s.length : Int) < (n : Int)) = false := by rw [decide_eq_false_iff_not]; omega
    generalize burntD d = x at *
    obtain ⟨d1, c⟩ := x
    simp only at hch hbs
    have HBS := Lib.hid hbs
    have HD := Lib.hid hd
    clear hbs hd h hv B
    go_enter Tryz.func123, Tryz.ntmps123
    go_wp2_with fail
    refine hch.mono ?_
    rintro e w1 ⟨rfl, h1, m1⟩
    clear b1 b2 b3 hch
    obtain ⟨v1, hv1, B1⟩ := h1.row
    obtain ⟨va1, vc1, rfl⟩ := hv1.form
    have H1 := Lib.hid h1
    by_cases h0 : c = 0
    · subst h0
      obtain ⟨e1, e2, e3, e4⟩ := HBS.out rfl
      have hn1 : n ≤ d1.s.length := by rw [e1]; exact hn
      have hv2 := hv1.take hn1
      have HR : Hid (R = (⟨d1.s.take n, min d1.safe (n : Int), d1.room, d1.fuse, d1.down⟩, 0)) := Lib.hid (by rw [HS.out, if_pos rfl, ← e1, ← e2, ← e3, ← e4])
      have hcap : d1.s.length ≤ vc1 := by
        rcases hv1 with ⟨x1, x2⟩ | ⟨g, cap, x1, x2, x3, x4, _⟩
        · rw [x2]; simp
        · injection x1 with _ _ x1c; subst x1c; exact x4
      have hva : va1 = none ∨ ∃ g, va1 = some ⟨g, 0, none⟩ := by
        rcases hv1 with ⟨x1, x2⟩ | ⟨g, cap, x1, _⟩
        · injection x1 with x1; exact .inl x1
        · injection x1 with x1; exact .inr ⟨g, x1⟩
      have n1 : (0 : Int) ≤ (n : Int) ∧ (n : Int) ≤ (vc1 : Int) := by omega
      have HB := Lib.hid B1
      have HL := Lib.hid h1.lt
      obtain ⟨b1, b2, b3⟩ := id B1
      clear e1 e2 e3 e4 HS HBS h1 hv1 B1
      rcases hva with rfl | ⟨g, rfl⟩
      all_goals
        go_wp2_with fail
        go_ret
        rw [HR.out]
        have hh := cut_end HL.out hv2 HB.out (min d1.safe (n : Int)) (a2 := .bool true) (a3 := .bool true) (a4 := .bool true) (n := 0)
        exact ⟨rfl, hh.1, m1.trans hh.2⟩
    · have k1 : (c == 0) = false := by simpa using h0
      have k2 : (c != 0) = true := by simpa using h0
      have HR : Hid (R = (d1, c)) := Lib.hid (by rw [HS.out, if_neg h0])
      clear h0 HS HBS h1 hv1 B1
      go_wp2_with fail
      go_ret
      rw [HR.out]
      exact ⟨rfl, H1.out, m1⟩
  · have HS : Hid (cutD d n = (d, 311)) := Lib.hid (by unfold cutD; rw [hd]; rfl)
    rw [hd] at b1
    clear hd h hv B hch
    go_enter Tryz.func123, Tryz.ntmps123
    go_wp2_with fail
    go_ret
    rw [HS.out]
    exact ⟨rfl, H.out, Mod.refl _ _⟩
end Go.Proofs.YthgjdaomcpinaaaGreatDoor

/- The laws of the library that the sorts lean on, at this program. -/
set_option linter.unusedVariables false
namespace Go.Proofs.YthgjdaomcpinaaaGreatDoor
open Go.Shelf

def keysT_ren : Go.Shelf.Ren := ⟨fun | 7 => 76 | 10 => 137 | n => n, fun | 23 => 120 | 26 => 3 | 3 => 27 | 28 => 133 | 0 => 0 | 27 => 132 | 33 => 181 | 4 => 4 | n => n, fun | n => n⟩
theorem keysT : Go.Proofs.SlLaysZI.n7 Tryz.prog keysT_ren := {
  mixed := by kernel_rfl
  f7 := ⟨Tryz.f76.name, by decide, Tryz.func76.trans (congrArg some (by kernel_rfl))⟩
  f10 := ⟨Tryz.f137.name, by decide, Tryz.func137.trans (congrArg some (by kernel_rfl))⟩
  t0 := Tryz.underlying0
  a0 := Tryz.isAgg0
  z0 := Tryz.sizeOf0
  v0 := Tryz.zeroValue0
  t4 := Tryz.underlying4
  a4 := Tryz.isAgg4
  z4 := Tryz.sizeOf4
  v4 := Tryz.zeroValue4
  t23 := Tryz.underlying120
  a23 := Tryz.isAgg120
  z23 := Tryz.sizeOf120
  v23 := Tryz.zeroValue120
  t26 := Tryz.underlying3
  a26 := Tryz.isAgg3
  z26 := Tryz.sizeOf3
  v26 := Tryz.zeroValue3
  t27 := Tryz.underlying132
  a27 := Tryz.isAgg132
  z27 := Tryz.sizeOf132
  v27 := Tryz.zeroValue132
  t28 := Tryz.underlying133
  a28 := Tryz.isAgg133
  z28 := Tryz.sizeOf133
  v28 := Tryz.zeroValue133
  t33 := Tryz.underlying181
  a33 := Tryz.isAgg181
  z33 := Tryz.sizeOf181
  v33 := Tryz.zeroValue181 }
def sortedT_ren : Go.Shelf.Ren := ⟨fun | 6 => 75 | 8 => 135 | 9 => 136 | 11 => 162 | 13 => 164 | 12 => 163 | 23 => 187 | 24 => 188 | 14 => 179 | 15 => 180 | 16 => 181 | 17 => 182 | 18 => 183 | 19 => 184 | 20 => 138 | 21 => 185 | 22 => 186 | 25 => 196 | 26 => 197 | 27 => 198 | 28 => 199 | 29 => 200 | 30 => 165 | 31 => 204 | n => n, fun | 26 => 3 | 28 => 133 | 24 => 51 | 0 => 0 | 3 => 3 | 37 => 170 | 48 => 196 | 50 => 199 | 4 => 4 | 40 => 220 | 39 => 219 | 45 => 138 | 5 => 5 | 9 => 9 | 51 => 236 | 55 => 240 | 57 => 246 | 58 => 247 | 33 => 181 | n => n, fun | n => n⟩
theorem sortedT : Go.Proofs.SlLaysZI.n6 Tryz.prog sortedT_ren := {
  mixed := by kernel_rfl
  f6 := ⟨Tryz.f75.name, by decide, Tryz.func75.trans (congrArg some (by kernel_rfl))⟩
  f8 := ⟨Tryz.f135.name, by decide, Tryz.func135.trans (congrArg some (by kernel_rfl))⟩
  f11 := ⟨Tryz.f162.name, by decide, Tryz.func162.trans (congrArg some (by kernel_rfl))⟩
  t0 := Tryz.underlying0
  a0 := Tryz.isAgg0
  z0 := Tryz.sizeOf0
  v0 := Tryz.zeroValue0
  t24 := Tryz.underlying51
  a24 := Tryz.isAgg51
  z24 := Tryz.sizeOf51
  v24 := Tryz.zeroValue51
  t26 := Tryz.underlying3
  a26 := Tryz.isAgg3
  z26 := Tryz.sizeOf3
  v26 := Tryz.zeroValue3
  t28 := Tryz.underlying133
  a28 := Tryz.isAgg133
  z28 := Tryz.sizeOf133
  v28 := Tryz.zeroValue133
  i26 := by kernel_rfl }
def sortT_ren : Go.Shelf.Ren := ⟨fun | 5 => 136 | 8 => 164 | 7 => 163 | 19 => 187 | 20 => 188 | 10 => 179 | 11 => 180 | 12 => 181 | 13 => 182 | 14 => 183 | 15 => 184 | 16 => 138 | 17 => 185 | 18 => 186 | 30 => 196 | 31 => 197 | 32 => 198 | 33 => 199 | 34 => 200 | 35 => 165 | 40 => 204 | n => n, fun | 23 => 51 | 25 => 3 | 3 => 3 | 32 => 170 | 22 => 51 | 0 => 0 | 44 => 196 | 46 => 199 | 4 => 4 | 36 => 220 | 35 => 219 | 41 => 138 | 5 => 5 | 9 => 9 | 53 => 236 | 57 => 240 | 63 => 246 | 64 => 247 | n => n, fun | n => n⟩
theorem sortT : Go.Proofs.SlLaysM.n5 Tryz.prog sortT_ren := {
  mixed := by kernel_rfl
  f5 := ⟨Tryz.f136.name, by decide, Tryz.func136.trans (congrArg some (by kernel_rfl))⟩
  f7 := ⟨Tryz.f163.name, by decide, Tryz.func163.trans (congrArg some (by kernel_rfl))⟩
  f8 := Tryz.func164.trans (congrArg some (by kernel_rfl))
  f10 := ⟨Tryz.f179.name, by decide, Tryz.func179.trans (congrArg some (by kernel_rfl))⟩
  f11 := ⟨Tryz.f180.name, by decide, Tryz.func180.trans (congrArg some (by kernel_rfl))⟩
  f12 := ⟨Tryz.f181.name, by decide, Tryz.func181.trans (congrArg some (by kernel_rfl))⟩
  f13 := ⟨Tryz.f182.name, by decide, Tryz.func182.trans (congrArg some (by kernel_rfl))⟩
  f14 := ⟨Tryz.f183.name, by decide, Tryz.func183.trans (congrArg some (by kernel_rfl))⟩
  f15 := ⟨Tryz.f184.name, by decide, Tryz.func184.trans (congrArg some (by kernel_rfl))⟩
  f16 := ⟨Tryz.f138.name, by decide, Tryz.func138.trans (congrArg some (by kernel_rfl))⟩
  f17 := ⟨Tryz.f185.name, by decide, Tryz.func185.trans (congrArg some (by kernel_rfl))⟩
  f18 := ⟨Tryz.f186.name, by decide, Tryz.func186.trans (congrArg some (by kernel_rfl))⟩
  f19 := Tryz.func187.trans (congrArg some (by kernel_rfl))
  f20 := Tryz.func188.trans (congrArg some (by kernel_rfl))
  f30 := ⟨Tryz.f196.name, by decide, Tryz.func196.trans (congrArg some (by kernel_rfl))⟩
  f31 := Tryz.func197.trans (congrArg some (by kernel_rfl))
  f32 := Tryz.func198.trans (congrArg some (by kernel_rfl))
  f33 := ⟨Tryz.f199.name, by decide, Tryz.func199.trans (congrArg some (by kernel_rfl))⟩
  f34 := ⟨Tryz.f200.name, by decide, Tryz.func200.trans (congrArg some (by kernel_rfl))⟩
  f35 := ⟨Tryz.f165.name, by decide, Tryz.func165.trans (congrArg some (by kernel_rfl))⟩
  f40 := ⟨Tryz.f204.name, by decide, Tryz.func204.trans (congrArg some (by kernel_rfl))⟩
  t0 := Tryz.underlying0
  a0 := Tryz.isAgg0
  z0 := Tryz.sizeOf0
  v0 := Tryz.zeroValue0
  t3 := Tryz.underlying3
  a3 := Tryz.isAgg3
  z3 := Tryz.sizeOf3
  v3 := Tryz.zeroValue3
  t4 := Tryz.underlying4
  a4 := Tryz.isAgg4
  z4 := Tryz.sizeOf4
  v4 := Tryz.zeroValue4
  t5 := Tryz.underlying5
  a5 := Tryz.isAgg5
  z5 := Tryz.sizeOf5
  v5 := Tryz.zeroValue5
  t9 := Tryz.underlying9
  a9 := Tryz.isAgg9
  z9 := Tryz.sizeOf9
  v9 := Tryz.zeroValue9
  t22 := Tryz.underlying51
  a22 := Tryz.isAgg51
  z22 := Tryz.sizeOf51
  v22 := Tryz.zeroValue51
  t23 := Tryz.underlying51
  a23 := Tryz.isAgg51
  z23 := Tryz.sizeOf51
  v23 := Tryz.zeroValue51
  t25 := Tryz.underlying3
  a25 := Tryz.isAgg3
  z25 := Tryz.sizeOf3
  v25 := Tryz.zeroValue3
  t32 := Tryz.underlying170
  a32 := Tryz.isAgg170
  z32 := Tryz.sizeOf170
  v32 := Tryz.zeroValue170
  t35 := Tryz.underlying219
  a35 := Tryz.isAgg219
  z35 := Tryz.sizeOf219
  v35 := Tryz.zeroValue219
  t36 := Tryz.underlying220
  a36 := Tryz.isAgg220
  z36 := Tryz.sizeOf220
  v36 := Tryz.zeroValue220
  t41 := Tryz.underlying138
  a41 := Tryz.isAgg138
  z41 := Tryz.sizeOf138
  v41 := Tryz.zeroValue138
  t44 := Tryz.underlying196
  a44 := Tryz.isAgg196
  z44 := Tryz.sizeOf196
  v44 := Tryz.zeroValue196
  t46 := Tryz.underlying199
  a46 := Tryz.isAgg199
  z46 := Tryz.sizeOf199
  v46 := Tryz.zeroValue199
  t53 := Tryz.underlying236
  a53 := Tryz.isAgg236
  z53 := Tryz.sizeOf236
  v53 := Tryz.zeroValue236
  t57 := Tryz.underlying240
  a57 := Tryz.isAgg240
  z57 := Tryz.sizeOf240
  v57 := Tryz.zeroValue240
  t63 := Tryz.underlying246
  a63 := Tryz.isAgg246
  z63 := Tryz.sizeOf246
  v63 := Tryz.zeroValue246
  t64 := Tryz.underlying247
  a64 := Tryz.isAgg247
  z64 := Tryz.sizeOf247
  v64 := Tryz.zeroValue247 }

end Go.Proofs.YthgjdaomcpinaaaGreatDoor
