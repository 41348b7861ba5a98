/- Jour, JourW, Eats1, RList. -/
import Derived.WalkMore
import Derived.Test.YthgjdaomcpinaaaGreatDoorMn2
import Derived.Test.YthgjdaomcpinaaaGreatDoorMn6
import Derived.Test.YthgjdaomcpinaaaGreatDoorMn9
set_option linter.unnecessarySimpa false

/- Layer 32: a batch as bytes; batches are written: plain, and the program's walks. -/
set_option linter.unusedSimpArgs false
set_option linter.unusedVariables false
namespace Go.Proofs.YthgjdaomcpinaaaGreatDoor
open Go.RowKit Pl

namespace Pl
/-- A record. -/
def recP (l : List Bs) : Bs := text (encS l) ++ (sumP (text (encS l))).take 4
/-- May a batch be written? -/
def mayR (l : List Bs) : Bool := decide (l.length ≤ 1024) && l.all (fun s => decide (s.length ≤ 65536)) && decide ((encS l).length ≤ 524288)
end Pl
set_option maxRecDepth 100000 in
set_option maxHeartbeats 2000000 in
theorem jrecord_any (v : Value) (l : List Bs) (hn : l.length ≤ 1000) (hm : mayR l = true) (w : World) (hk : KT w) (hv : SS w v l) :
    Calls Tryz.prog 155 #[v] w fun e w' => e = .returned (.tuple #[.string ⟨List.toArray (recP l)⟩, .int .i64 (0)]) ∧ Below w.heap.size w w' := by
  unfold mayR at hm
  simp only [Bool.and_eq_true, decide_eq_true_eq, List.all_eq_true] at hm
  obtain ⟨⟨h1, h2⟩, h3⟩ := hm
  have hl : ∀ i, i < l.length → (l.getD i []).length ≤ 65536 := fun i hi => h2 _ (by rw [List.getD_eq_getElem?_getD, List.getElem?_eq_getElem hi]; exact List.getElem_mem _)
  have HL := Lib.hid hl
  have q1 := fun W (hb : Below w.heap.size w W) => clist_any v l W hn (fun i hi => by have := hl i hi; omega) (hv.keep hb)
  have q2 := fun W => ctext_any (encS l) (by omega) W
  have ht := text_len (encS l)
  have q3 := fun W (hb : Below w.heap.size w W) => shasum_any (text (encS l)) (by omega) W (hk.keep hb)
  have hsl := sumP_len (text (encS l))
  have hr : recP l = text (encS l) ++ (sumP (text (encS l))).take 4 := rfl
  rw [hr]
  obtain ⟨va, vc, rfl⟩ := hv.form
  have HV := Lib.hid hv
  have d1 : decide (1024 < (l.length : Int)) = false := by rw [decide_eq_false_iff_not]; omega
  have d2 : decide (524288 < ((encS l).length : Int)) = false := by rw [decide_eq_false_iff_not]; omega
  have d3 : ¬ 524288 < ((encS l).length : Int) := by omega
  clear hl h2 hr hv
  generalize encS l = E at *
  generalize text E = T at *
  generalize sumP T = D at *
  have hcat : ¬ 9223372036854775807 < T.length + 4 := by omega
  have h4 : (D.take 4).length = 4 := by rw [List.length_take]; omega
  go_enter Tryz.func155, Tryz.ntmps155
  go_wp2_with fail
  go_loopw [13] (fun s13 wr => ∃ i : Nat, s13 = .int .i64 (i) ∧ i ≤ l.length ∧ Below w.heap.size w wr) (fun s13 _ => l.length - (intOf s13).toNat)
  case atStart => exact ⟨0, rfl, Nat.zero_le _, Below.refl _ _⟩
  case round =>
    obtain ⟨i, rfl, hi, hb⟩ := hrel
    obtain ⟨wr, hnm⟩ := Below.name hb
    subst hnm
    by_cases hlt : i < l.length
    · have HLT := Lib.hid hlt
      have i1 : decide ((i : Int) < (l.length : Int)) = true := by simp; omega
      have i0 : 0 ≤ (i : Int) ∧ (i : Int) < (l.length : Int) := by omega
      obtain ⟨g, off, e1, hg, c1⟩ := (HV.out.keep hb).at' i hlt
      subst e1
      have hx := HL.out i hlt
      generalize l.getD i [] = x at *
      have d4 : decide (65536 < (x.length : Int)) = false := by rw [decide_eq_false_iff_not]; omega
      have d5 : ¬ 65536 < (x.length : Int) := by omega
      clear hlt hx
      go_wp2_with fail
      exact ⟨⟨i + 1, by go_num, by have := HLT.out; omega, hb⟩, by have := HLT.out; simp [intOf]; omega⟩
    · have e : i = l.length := by omega
      subst e
      clear hlt
      go_wp2_with fail
      refine (q1 _ hb).mono ?_
      rintro e w2 ⟨rfl, hb2⟩
      have hb2 := hb.trans (hb2.mono hb.size)
      go_wp2_with fail
      refine (q2 _).mono ?_
      rintro e w3 ⟨rfl, hb3⟩
      have hb3 := hb2.trans (hb3.mono hb2.size)
      go_wp2_with fail
      refine (q3 _ hb3).mono ?_
      rintro e w4 ⟨rfl, hb4⟩
      have hb4 := hb3.trans (hb4.mono hb3.size)
      go_wp2_with fail
      go_ret2
      exact ⟨by simp, hb4⟩
end Go.Proofs.YthgjdaomcpinaaaGreatDoor

/- Layer 32: the journal: opened on a disk without bytes; a batch is written: the program's walks. -/
set_option linter.unusedSimpArgs false
set_option linter.unusedVariables false
namespace Go.Proofs.YthgjdaomcpinaaaGreatDoor
open Go.RowKit Pl

namespace Pl
/-- The disk behind a write, and the code. -/
def writeD (d : Dk) (l : List Bs) : Dk × Int := if (appD d (recP l)).2 = 0 then syncD (appD d (recP l)).1 else appD d (recP l)
theorem burnt_fuse (d : Dk) : (burntD d).1.fuse = d.fuse ∨ ((burntD d).1.fuse = d.fuse - 1 ∧ 0 < d.fuse) := by
  unfold burntD
  split
  · exact .inl rfl
  · split
    · rename_i h
      exact .inr ⟨rfl, h⟩
    · exact .inl rfl
theorem app_fuse (d : Dk) (t : Bs) : (appD d t).1.fuse = d.fuse ∨ ((appD d t).1.fuse = d.fuse - 1 ∧ 0 < d.fuse) := by
  unfold appD
  split
  · exact .inl rfl
  · split
    · exact .inl rfl
    · split
      · exact burnt_fuse d
      · exact burnt_fuse d
def tornD (c : Int) : Bool := decide (c ≠ 0) && decide (c ≠ 310)
end Pl
theorem jscan_empty (w : World) : Calls Tryz.prog 122 #[.string ⟨List.toArray ([])⟩] w fun e w' => e = .returned (.tuple #[.slice none 0 0, .int .i64 (0)]) ∧ w' = w := by
  go_enter Tryz.func122, Tryz.ntmps122
  go_wp2_with fail
  go_step3
  go_wp2_with fail
  go_step3
  go_wp2_with fail
  go_loopw [2, 3] (fun s2 s3 wr => s2 = .slice none 0 0 ∧ s3 = .int .i64 (0) ∧ wr = w) (fun _ _ _ => 0)
  case atStart => exact ⟨rfl, rfl, rfl⟩
  case round =>
    obtain ⟨rfl, rfl, rfl⟩ := hrel
    go_wp2_with fail
    rw [Exit.noGoto_ret]
    go_ret2
    exact ⟨rfl, rfl⟩
set_option maxRecDepth 100000 in
set_option maxHeartbeats 2000000 in
theorem jopen_empty (av : List Nat) (p : Nat) (d : Dk) (hd : d.s = []) (hf : -9223372036854775808 ≤ d.fuse ∧ d.fuse ≤ 9223372036854775807) (hsy : (syncD d).2 = 0) (w : World) (h : DkV w av p d) :
    Calls Tryz.prog 68 #[.pointer (some ⟨p, 0, none⟩)] w fun e w' => ∃ j, e = .returned (.tuple #[.pointer (some ⟨j, 0, none⟩), .slice none 0 0, .int .i64 (0)]) ∧ w.heap.size ≤ j ∧ Blk w' j #[.pointer (some ⟨p, 0, none⟩), .bool false] ∧ DkV w' (j :: av) p (syncD d).1 ∧ Mod [p] w w' := by
  have q1 := dread_any av p d w h
  rw [hd] at q1
  have q2 := jscan_empty w
  have q3 := dsync_any av p d hf w h
  generalize syncD d = x at *
  obtain ⟨d1, c⟩ := x
  simp only at hsy q3
  subst hsy
  clear hd h
  go_enter Tryz.func68, Tryz.ntmps68
  go_wp2_with fail
  refine q1.mono ?_
  rintro e w1 ⟨rfl, rfl⟩
  go_wp2_with fail
  refine q2.mono ?_
  rintro e w2 ⟨rfl, rfl⟩
  go_wp2_with fail
  refine q3.mono ?_
  rintro e w3 ⟨rfl, h3, m3⟩
  go_wp2_with fail
  go_ret3
  exact ⟨w3.heap.size, rfl, m3.size, Blk.new _ _ _, (h3.more (Nat.le_refl _)).keep (Below.allocS (Below.refl _ _) _), m3.trans (Mod.of_below (Below.allocS (Below.refl _ _) _))⟩
set_option maxRecDepth 100000 in
set_option maxHeartbeats 2000000 in
theorem jwrite_any (av : List Nat) (p j : Nat) (d : Dk) (v : Value) (l : List Bs) (hn : l.length ≤ 1000) (hm : mayR l = true) (hf : -9223372036854775808 ≤ d.fuse ∧ d.fuse ≤ 9223372036854775807) (hrm : 0 ≤ d.room ∧ d.room ≤ 1048576) (hsl : d.s.length ≤ 1048576) (w : World) (hk : KT w) (h : DkV w av p d) (hj : Blk w j #[.pointer (some ⟨p, 0, none⟩), .bool false]) (hpj : p ≠ j) (hjb : j ∈ av) (hav : ∀ x ∈ av, x < w.heap.size) (hv : SS w v l) :
    Calls Tryz.prog 128 #[.pointer (some ⟨j, 0, none⟩), v] w fun e w' => e = .returned (.int .i64 ((writeD d l).2)) ∧ DkV w' av p (writeD d l).1 ∧ Blk w' j #[.pointer (some ⟨p, 0, none⟩), .bool (tornD (writeD d l).2)] ∧ Mod [p, j] w w' := by
  have q1 := jrecord_any v l hn hm w hk hv
  have hlen : (recP l).length ≤ 1000000 := by
    unfold mayR at hm
    simp only [Bool.and_eq_true, decide_eq_true_eq] at hm
    have h1 := text_len (encS l)
    unfold recP
    rw [List.length_append, List.length_take]
    omega
  have q2 := fun W (h : DkV W av p d) (hb : ∀ x ∈ av, x < W.heap.size) => dappend_any av p d (recP l) hf hrm hsl (by omega) W h hb
  have hap := app_fuse d (recP l)
  have q3 := fun W (h : DkV W av p (appD d (recP l)).1) => dsync_any av p (appD d (recP l)).1 (by omega) W h
  have HW : Hid (writeD d l = if (appD d (recP l)).2 = 0 then syncD (appD d (recP l)).1 else appD d (recP l)) := Lib.hid rfl
  generalize writeD d l = R at *
  generalize appD d (recP l) = x at *
  obtain ⟨d1, c1⟩ := x
  simp only at q2 q3 hap
  generalize syncD d1 = y at *
  obtain ⟨d2, c2⟩ := y
  simp only at q3
  generalize recP l = rr at *
  obtain ⟨b1, b2, b3⟩ := id hj
  have HT : Hid (∀ c, tornD c = (decide (c ≠ 0) && decide (c ≠ 310))) := Lib.hid (fun _ => rfl)
  clear hm hlen hap
  go_enter Tryz.func128, Tryz.ntmps128
  go_wp2_with fail
  refine q1.mono ?_
  rintro e w1 ⟨rfl, hb1⟩
  have h1 := h.keep hb1
  have hj1 := hj.keep hb1
  have hbs1 := fun x (hx : x ∈ av) => Nat.lt_of_lt_of_le (hav x hx) hb1.size
  clear b1 b2 b3 q1 h hj
  obtain ⟨b1, b2, b3⟩ := id hj1
  go_wp2_with fail
  refine (q2 _ h1 hbs1).mono ?_
  rintro e w2 ⟨rfl, h2, m2⟩
  have hj2 := hj1.mod m2 (by simp; omega)
  clear b1 b2 b3 q2 h1 hj1
  obtain ⟨b1, b2, b3⟩ := id hj2
  have hkp := hb1
  by_cases h0 : c1 = 0
  · subst h0
    have HR : Hid (R = (d2, c2)) := Lib.hid (by rw [HW.out, if_pos rfl])
    clear HW
    go_wp2_with fail
    refine (q3 _ h2).mono ?_
    rintro e w3 ⟨rfl, h3, m3⟩
    have hj3 := hj2.mod m3 (by simp; omega)
    clear b1 b2 b3 q3 h2 hj2
    obtain ⟨b1, b2, b3⟩ := id hj3
    by_cases h1 : c2 = 0
    · subst h1
      go_wp2_with fail
      go_ret
      have hm := (Mod.refl [p, j] w3).setCell (p := ⟨j, 1, none⟩) (.inl (by simp)) (.bool false)
      have hmj := (Mod.refl [j] w3).setCell (p := ⟨j, 1, none⟩) (.inl (by simp)) (.bool false)
      rw [HR.out]
      refine ⟨rfl, ⟨h3.lt, ?_⟩, ?_, ?_⟩
      · obtain ⟨vx, hx1, hx2⟩ := h3.row
        exact ⟨vx, hx1.mod hmj hjb, hx2.mod hmj (by simp; omega)⟩
      · rw [show tornD 0 = false from rfl]
        simpa using hj3.set 1 (.bool false)
      · exact (((Mod.of_below hb1).trans (m2.sub (by simp))).trans (m3.sub (by simp))).trans hm
    · have g1 : (c2 == 0) = false := by simpa using h1
      have g2 : (c2 != 0) = true := by simpa using h1
      by_cases h5 : c2 = 310
      · subst h5
        go_wp2_with fail
        go_ret
        have hm := (Mod.refl [p, j] w3).setCell (p := ⟨j, 1, none⟩) (.inl (by simp)) (.bool false)
        have hmj := (Mod.refl [j] w3).setCell (p := ⟨j, 1, none⟩) (.inl (by simp)) (.bool false)
        rw [HR.out]
        refine ⟨rfl, ⟨h3.lt, ?_⟩, ?_, ?_⟩
        · obtain ⟨vx, hx1, hx2⟩ := h3.row
          exact ⟨vx, hx1.mod hmj hjb, hx2.mod hmj (by simp; omega)⟩
        · rw [show tornD 310 = false from rfl]
          simpa using hj3.set 1 (.bool false)
        · exact (((Mod.of_below hb1).trans (m2.sub (by simp))).trans (m3.sub (by simp))).trans hm
      · have g3 : (c2 == 310) = false := by simpa using h5
        have g4 : (c2 != 310) = true := by simpa using h5
        have HTT : Hid (tornD c2 = true) := Lib.hid (by unfold tornD; simp [h1, h5])
        clear h1 h5
        go_wp2_with fail
        go_ret
        have hm := (Mod.refl [p, j] w3).setCell (p := ⟨j, 1, none⟩) (.inl (by simp)) (.bool true)
        have hmj := (Mod.refl [j] w3).setCell (p := ⟨j, 1, none⟩) (.inl (by simp)) (.bool true)
        rw [HR.out]
        refine ⟨rfl, ⟨h3.lt, ?_⟩, ?_, ?_⟩
        · obtain ⟨vx, hx1, hx2⟩ := h3.row
          exact ⟨vx, hx1.mod hmj hjb, hx2.mod hmj (by simp; omega)⟩
        · rw [show tornD c2 = true from HTT.out]
          simpa using hj3.set 1 (.bool true)
        · exact (((Mod.of_below hb1).trans (m2.sub (by simp))).trans (m3.sub (by simp))).trans hm
  · have g1 : (c1 == 0) = false := by simpa using h0
    have g2 : (c1 != 0) = true := by simpa using h0
    have HR : Hid (R = (d1, c1)) := Lib.hid (by rw [HW.out, if_neg h0])
    clear HW q3
    by_cases h5 : c1 = 310
    · subst h5
      go_wp2_with fail
      go_ret
      have hm := (Mod.refl [p, j] w2).setCell (p := ⟨j, 1, none⟩) (.inl (by simp)) (.bool false)
      have hmj := (Mod.refl [j] w2).setCell (p := ⟨j, 1, none⟩) (.inl (by simp)) (.bool false)
      rw [HR.out]
      refine ⟨rfl, ⟨h2.lt, ?_⟩, ?_, ?_⟩
      · obtain ⟨vx, hx1, hx2⟩ := h2.row
        exact ⟨vx, hx1.mod hmj hjb, hx2.mod hmj (by simp; omega)⟩
      · rw [show tornD 310 = false from rfl]
        simpa using hj2.set 1 (.bool false)
      · exact ((Mod.of_below hb1).trans (m2.sub (by simp))).trans hm
    · have g3 : (c1 == 310) = false := by simpa using h5
      have g4 : (c1 != 310) = true := by simpa using h5
      have HTT : Hid (tornD c1 = true) := Lib.hid (by unfold tornD; simp [h0, h5])
      clear h0 h5
      go_wp2_with fail
      go_ret
      have hm := (Mod.refl [p, j] w2).setCell (p := ⟨j, 1, none⟩) (.inl (by simp)) (.bool true)
      have hmj := (Mod.refl [j] w2).setCell (p := ⟨j, 1, none⟩) (.inl (by simp)) (.bool true)
      rw [HR.out]
      refine ⟨rfl, ⟨h2.lt, ?_⟩, ?_, ?_⟩
      · obtain ⟨vx, hx1, hx2⟩ := h2.row
        exact ⟨vx, hx1.mod hmj hjb, hx2.mod hmj (by simp; omega)⟩
      · rw [show tornD c1 = true from HTT.out]
        simpa using hj2.set 1 (.bool true)
      · exact ((Mod.of_below hb1).trans (m2.sub (by simp))).trans hm
end Go.Proofs.YthgjdaomcpinaaaGreatDoor

/- Layer 2, plain: a reader that ends well has eaten just the bytes that would be written. -/
set_option linter.unusedSimpArgs false
set_option linter.unusedVariables false
namespace Go.Proofs.YthgjdaomcpinaaaGreatDoor
namespace Pl

theorem digs_be : ∀ (f : Nat) (l : Bs), l.length ≤ f → (l.headD 1 ≠ 0) → digs f (be l) = l
  | 0, l, h, _ => by
    have : l = [] := List.length_eq_zero_iff.1 (by omega)
    subst this; rfl
  | f + 1, l, h, h0 => by
    rcases List.eq_nil_or_concat l with rfl | ⟨r, c, rfl⟩
    · simp [be, digs]
    · rw [List.concat_eq_append] at *
      have hp : 0 < be (r ++ [c]) := by
        cases r with
        | nil =>
          simp at h0
          have : c.toNat ≠ 0 := fun e => h0 (by rw [← UInt8.toNat_inj]; exact e)
          simp [be]; omega
        | cons a q =>
          simp at h0
          have h1 : a.toNat ≠ 0 := fun e => h0 (by rw [← UInt8.toNat_inj]; exact e)
          rw [List.cons_append, be_cons]
          have : 1 * 256 ^ (q ++ [c]).length ≤ a.toNat * 256 ^ (q ++ [c]).length := Nat.mul_le_mul_right _ (by omega)
          have := Nat.pow_pos (n := (q ++ [c]).length) (show 0 < 256 by omega)
          omega
      rw [digs_step f _ hp, be_snoc]
      have hc := c.toNat_lt
      rw [show (be r * 256 + c.toNat) / 256 = be r from by omega, show (be r * 256 + c.toNat) % 256 = c.toNat from by omega]
      rw [digs_be f r (by simp at h; omega) (by
        cases r with
        | nil => simp
        | cons a q => simpa using h0)]
      simp

theorem take_eats (s : Bs) (h : (take s).2.2 = 0) : s = num (take s).1 ++ (take s).2.1 := by
  cases s with
  | nil => exact absurd h (by decide)
  | cons k r =>
    unfold take at h ⊢
    simp only at h ⊢
    split at h
    · exact absurd h (by decide)
    · rename_i h8
      split at h
      · exact absurd h (by decide)
      · rename_i hr
        split at h
        · exact absurd h (by decide)
        · rename_i hz
          rw [if_neg h8, if_neg hr, if_neg hz]
          have hl : (r.take k.toNat).length = k.toNat := by simp; omega
          have hd : digs 8 (be (r.take k.toNat)) = r.take k.toNat := digs_be 8 _ (by omega) (by
            cases hk : k.toNat with
            | zero => simp
            | succ n =>
              cases r with
              | nil => simp at hr; omega
              | cons a q =>
                simp
                intro e
                exact hz (.inl ⟨by omega, by simp [e]⟩))
          simp only [num, hd, hl]
          rw [List.cons_append, List.take_append_drop]
          simp
theorem tx_eats (s : Bs) (most : Int) (h : (tx s most).2.2 = 0) : s = text (tx s most).1 ++ (tx s most).2.1 ∧ ((tx s most).1.length : Int) ≤ most := by
  unfold tx at h ⊢
  split at h
  · rename_i h1; exact absurd h h1
  · rename_i h1
    split at h
    · exact absurd h (by decide)
    · rename_i h2
      split at h
      · exact absurd h (by decide)
      · rename_i h3
        rw [if_neg h1, if_neg h2, if_neg h3]
        have ht := take_eats s (by simpa using h1)
        have hl : ((take s).2.1.take (take s).1).length = (take s).1 := by simp; omega
        refine ⟨?_, by simp only [hl]; omega⟩
        simp only [text, hl]
        rw [List.append_assoc, List.take_append_drop]
        exact ht
theorem mText_eats (s : Bs) (c most : Int) (h : (mText s c most).2.2 = 0) : c = 0 ∧ s = text (mText s c most).1 ++ (mText s c most).2.1 ∧ ((mText s c most).1.length : Int) ≤ most := by
  unfold mText at h ⊢
  split at h
  · rename_i h1; exact absurd h h1
  · rename_i h1
    split at h
    · rename_i h2; exact absurd h h2
    · rename_i h2
      rw [if_neg h1, if_neg h2]
      have := tx_eats s most (by simpa using h2)
      exact ⟨by simpa using h1, this⟩
theorem mBytes_eats (s : Bs) (c : Int) (n : Nat) (h : (mBytes s c n).2.2 = 0) : c = 0 ∧ s = (mBytes s c n).1 ++ (mBytes s c n).2.1 ∧ (mBytes s c n).1.length = n := by
  unfold mBytes at h ⊢
  split at h
  · rename_i h1; exact absurd h h1
  · rename_i h1
    split at h
    · exact absurd h (by simp)
    · rename_i h2
      split at h
      · exact absurd h (by simp)
      · rename_i h3
        rw [if_neg h1, if_neg h2, if_neg h3]
        refine ⟨by simpa using h1, by simp, by simp; omega⟩

end Pl
end Go.Proofs.YthgjdaomcpinaaaGreatDoor

/- Walks of layer 2: a list out of a reader. -/
set_option linter.unusedSimpArgs false
set_option linter.unusedVariables false
namespace Go.Proofs.YthgjdaomcpinaaaGreatDoor
open Go.RowKit Pl

namespace Pl
/-- What is left to be told behind i texts. -/
theorem lGo_step (each : Int) (n : Nat) (s : Bs) (h : (tx s each).2.2 = 0) : lGo each (n + 1) s = ((tx s each).1 :: (lGo each n (tx s each).2.1).1, (lGo each n (tx s each).2.1).2) := by
  rw [lGo, if_neg (by simpa using h)]
theorem lGo_bad (each : Int) (n : Nat) (s : Bs) (h : (tx s each).2.2 ≠ 0) : (lGo each (n + 1) s).2.2 = (tx s each).2.2 := by
  rw [lGo, if_pos h]
end Pl

set_option maxRecDepth 100000 in
set_option maxHeartbeats 400000 in
theorem rlist_any (s : Bs) (c most each : Int) (p : Nat) (w : World) (R : Rdr w p s c) (hm : most ≤ 1000) :
    Calls Tryz.prog 175 #[.pointer (some ⟨p, 0, none⟩), .int .i64 (most), .int .i64 (each)] w fun e w' => ∃ v, e = .returned v ∧ SRow w' w.heap.size v (mList s c most each).1 ∧ Rdr w' p (mList s c most each).2.1 (mList s c most each).2.2 ∧ Mod [p] w w' := by
  obtain ⟨l, a, h1, h2, rfl, B⟩ := id R
  obtain ⟨b1, b2, b3⟩ := id B
  by_cases hc : c = 0
  · subst hc
    have hfl : a ≤ 9223372036854775807 := by omega
    by_cases he : (Pl.take (l.drop a)).2.2 = 0
    · by_cases hmo : most < (Pl.take (l.drop a)).1
      · rw [mList_long _ _ _ he hmo]
        have hd : decide (most < ((Pl.take (l.drop a)).1 : Int)) = true := by simpa using hmo
        go_enter Tryz.func175, Tryz.ntmps175
        go_wp2_with fail
        refine (number_ok l a p _ h1 h2 B).mono ?_
        rintro e w1 ⟨rfl, ⟨x, hx1, hx2, B1, hx3⟩, m1⟩
        rw [he]
        clear hx3 he hx2 b1 b2 b3
        generalize (Pl.take (l.drop a)).1 = n at *
        go_wp2_with fail
        go_loopw [9, 11, 12] (fun s9 s11 s12 wr => s9 = .int .i64 (2) ∧ s11 = .slice none 0 0 ∧ s12 = .int .i64 (0) ∧ wr = w1) (fun _ _ _ _ => 0)
        case atStart => exact ⟨rfl, rfl, rfl, rfl⟩
        case round =>
          obtain ⟨rfl, rfl, rfl, rfl⟩ := hrel
          go_wp2_with fail
          all_goals
            refine (refused_yes l x a 2 p _ B1).mono ?_
            rintro e w2 ⟨rfl, B2, m2⟩
            go_wp2_with fail
            go_ret
            exact ⟨.slice none 0 0, rfl, SRow.nil _ _, ⟨l, a, h1, h2, rfl, B2⟩, m1.trans m2⟩
      · generalize hr : mList (l.drop a) 0 most each = r
        have HR : Hid (mListIn (l.drop a) (lGo each (Pl.take (l.drop a)).1 (Pl.take (l.drop a)).2.1) = r) := Lib.hid (by rw [← hr, mList_in _ _ _ he hmo])
        clear hr
        have hd : decide (most < ((Pl.take (l.drop a)).1 : Int)) = false := by simpa using hmo
        go_enter Tryz.func175, Tryz.ntmps175
        go_wp2_with fail
        refine (number_ok l a p _ h1 h2 B).mono ?_
        rintro e w1 ⟨rfl, ⟨x0, hx1, hx2, B1, hx3⟩, m1⟩
        have HX := Lib.hid (hx3 he)
        rw [he]
        clear hx3 he hx2 b1 b2 b3
        have hn1 : (Pl.take (l.drop a)).1 ≤ 1000 := by omega
        generalize (Pl.take (l.drop a)).1 = n at *
        generalize (Pl.take (l.drop a)).2.1 = s0 at *
        go_wp2_with fail
        go_loopw [9, 11, 12] (fun s9 s11 s12 wr => ∃ (i x : Nat) (e : Int) (acc : List Bs), i ≤ n ∧ acc.length ≤ i ∧ s12 = .int .i64 (i) ∧ s9 = .int .i64 (e) ∧ SRow wr w.heap.size s11 acc ∧ x ≤ l.length ∧ Blk wr p #[.string ⟨List.toArray (l)⟩, .int .i64 (x), .int .i64 (0)] ∧ Mod [p] w wr ∧
            Hid ((e = 0 → lGo each n s0 = (acc ++ (lGo each (n - i) (l.drop x)).1, (lGo each (n - i) (l.drop x)).2)) ∧ (e ≠ 0 → (lGo each n s0).2.2 = e))) (fun _ _ s12 _ => n - (intOf s12).toNat)
        case atStart => exact ⟨0, x0, 0, [], by omega, by simp, rfl, rfl, SRow.nil _ _, hx1, B1, m1, Lib.hid ⟨fun _ => by rw [HX.out]; simp, fun h => absurd rfl h⟩⟩
        case round =>
          clear m1 B1 hx1 HX
          obtain ⟨i, x, e, acc, hi, hac, rfl, rfl, hS, hx1, B1, m1, HG⟩ := hrel
          obtain ⟨b1, b2, b3⟩ := id B1
          have hpw : p < w.heap.size := B.lt
          by_cases he : e = 0
          · subst he
            by_cases hlt : i < n
            · have hlt' : (i : Int) < (n : Int) := by omega
              have hG := HG.out.1 rfl
              obtain ⟨k, hk⟩ : ∃ k, n - i = k + 1 := ⟨n - i - 1, by omega⟩
              rw [hk] at hG
              have HS := Lib.hid (lGo_step each k (l.drop x))
              have HB := Lib.hid (lGo_bad each k (l.drop x))
              have HK := Lib.hid (show n - (i + 1) = k by omega)
              have HGG := Lib.hid hG
              clear hG hk HG
              go_wp2_with fail
              refine (rtext_in l x each p _ h1 hx1 B1).mono ?_
              rintro e w2 ⟨rfl, ⟨y, hy1, B2, hy3⟩, m2⟩
              have hS2 := hS.mod m2 hpw
              have HY := Lib.hid hy3
              clear hy3
              by_cases ht : (tx (l.drop x) each).2.2 = 0
              · have HT := Lib.hid ht
                have hsz := (m1.trans m2).size
                rw [ht]
                clear ht
                go_wp2_with (first
                  | (at_builtin; refine wpList_appS rfl (.tmp 49) (.tmp 51) rfl w.heap.size _ acc rfl (hS2.alloc _) w2.heap.size 0 1 1 [(tx (l.drop x) each).1] rfl rfl (ssrc1 _ _ _) (by simp; omega) (by simp; omega) ?_; rintro v' w7 hS7 hb7)
                  | fail)
                have m7 : Mod [p] w w7 := ((m1.trans m2).alloc _).grow hb7
                have B7 : Blk w7 p #[.string ⟨List.toArray (l)⟩, .int .i64 (y), .int .i64 (0)] := (B2.alloc _).of_block (hb7.block p hpw) hb7.size
                refine ⟨⟨i + 1, y, 0, acc ++ [(tx (l.drop x) each).1], by omega, by simp; omega, by go_num, rfl, hS7, hy1, B7, m7, Lib.hid ⟨fun _ => ?_, fun h => absurd rfl h⟩⟩, by simp [intOf]; omega⟩
                rw [HGG.out, HS.out HT.out, HK.out, HY.out HT.out]
                simp
              · have hc2 : ((tx (l.drop x) each).2.2 == 0) = false := by simpa using ht
                have HT := Lib.hid ht
                generalize he2 : (tx (l.drop x) each).2.2 = e2 at *
                have hte : ¬ e2 = 0 := ht
                have HE := Lib.hid he2
                clear he2
                go_wp2_with fail
                refine ⟨⟨i + 1, y, e2, acc, by omega, by omega, by go_num, rfl, hS2, hy1, B2, m1.trans m2, Lib.hid ⟨fun h => absurd h HT.out, fun _ => ?_⟩⟩, by simp [intOf]; omega⟩
                rw [HGG.out]
                exact HB.out HT.out
            · obtain rfl : i = n := by omega
              have hG := HG.out.1 rfl
              rw [Nat.sub_self, lGo, List.append_nil] at hG
              have HZ : Hid ((acc, l.drop x, (0 : Int)) = r) := Lib.hid (by rw [← HR.out, hG]; simp [mListIn])
              clear HG hG HR
              go_wp2_with fail
              all_goals (go_ret; refine ⟨_, rfl, ?_, ?_, m1⟩)
              · rw [← HZ.out]; exact hS
              · rw [← HZ.out]; exact ⟨l, x, h1, hx1, rfl, B1⟩
          · have HZ : Hid (([], l.drop a, e) = r) := Lib.hid (by rw [← HR.out]; unfold mListIn; rw [HG.out.2 he, if_pos he])
            have hc2 : (e != 0) = true := by simpa using he
            have hc3 : (e == 0) = false := by simpa using he
            clear HG HR
            go_wp2_with fail
            all_goals
              refine (refused_yes l x a e p _ B1).mono ?_
              rintro e w2 ⟨rfl, B2, m2⟩
              go_wp2_with fail
              go_ret
              refine ⟨.slice none 0 0, rfl, ?_, ?_, m1.trans m2⟩
              · rw [← HZ.out]; exact SRow.nil _ _
              · rw [← HZ.out]; exact ⟨l, a, h1, h2, rfl, B2⟩
    · rw [mList_bad _ _ _ he]
      generalize he0 : (Pl.take (l.drop a)).2.2 = e0 at *
      have HE := Lib.hid he0
      clear he0
      have hc2 : (e0 != 0) = true := by simpa using he
      have hc3 : (e0 == 0) = false := by simpa using he
      go_enter Tryz.func175, Tryz.ntmps175
      go_wp2_with fail
      refine (number_ok l a p _ h1 h2 B).mono ?_
      rintro e w1 ⟨rfl, ⟨x, hx1, hx2, B1, hx3⟩, m1⟩
      rw [HE.out]
      clear hx3 hx2 b1 b2 b3 HE
      generalize (Pl.take (l.drop a)).1 = n at *
      go_wp2_with fail
      go_loopw [9, 11, 12] (fun s9 s11 s12 wr => s9 = .int .i64 (e0) ∧ s11 = .slice none 0 0 ∧ s12 = .int .i64 (0) ∧ wr = w1) (fun _ _ _ _ => 0)
      case atStart => exact ⟨rfl, rfl, rfl, rfl⟩
      case round =>
        obtain ⟨rfl, rfl, rfl, rfl⟩ := hrel
        go_wp2_with fail
        all_goals
          refine (refused_yes l x a e0 p _ B1).mono ?_
          rintro e w2 ⟨rfl, B2, m2⟩
          go_wp2_with fail
          go_ret
          exact ⟨.slice none 0 0, rfl, SRow.nil _ _, ⟨l, a, h1, h2, rfl, B2⟩, m1.trans m2⟩
  · rw [mList_c _ _ _ _ hc]
    have hc2 : (c != 0) = true := by simpa using hc
    have hc3 : (c == 0) = false := by simpa using hc
    go_enter Tryz.func175, Tryz.ntmps175
    go_wp2_with fail
    refine (number_bad l a c hc p _ B).mono ?_
    rintro e w1 ⟨rfl, nq, rfl⟩
    go_wp2_with fail
    go_loopw [9, 11, 12] (fun s9 s11 s12 wr => s9 = .int .i64 (c) ∧ s11 = .slice none 0 0 ∧ s12 = .int .i64 (0) ∧ wr = w.drewN nq) (fun _ _ _ _ => 0)
    case atStart => exact ⟨rfl, rfl, rfl, rfl⟩
    case round =>
      obtain ⟨rfl, rfl, rfl, rfl⟩ := hrel
      go_wp2_with fail
      refine (refused_no l a a c c hc p _ (B.drewN nq)).mono ?_
      rintro e w2 ⟨rfl, rfl⟩
      go_wp2_with fail
      go_ret
      exact ⟨.slice none 0 0, rfl, SRow.nil _ _, R.drewN nq, (Mod.refl _ _).drewN nq⟩
end Go.Proofs.YthgjdaomcpinaaaGreatDoor
