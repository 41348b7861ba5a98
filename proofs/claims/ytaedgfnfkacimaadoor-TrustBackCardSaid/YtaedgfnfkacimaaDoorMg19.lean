/- Jour, JourW, TWrite, TOpen, TMap, Shelf8, TMapP, Shelf5, OwnT, Own. -/
import Derived.WalkMore
import Derived.Lib.OwnKind
import Derived.Sort.KeysCollected
import Derived.Test.YtaedgfnfkacimaaDoorProg
import Derived.Shelf.SlMaps.Clone
import Derived.Shelf.SlicesE.Clone
import Derived.Test.YtaedgfnfkacimaaDoorMg12
import Derived.Test.YtaedgfnfkacimaaDoorMg16
import Derived.Test.YtaedgfnfkacimaaDoorMg17
import Derived.Test.YtaedgfnfkacimaaDoorMg18
set_option linter.unnecessarySimpa false

/- Layer 32: a batch as bytes; batches are written: plain, and the program's walks. -/
set_option linter.unusedSimpArgs false
set_option linter.unusedVariables false
namespace Go.Proofs.YtaedgfnfkacimaaDoor
open Go.RowKit Pl

namespace Pl
/-- A record. -/
def recP (l : List Bs) : Bs := text (encS l) ++ (sumP (text (encS l))).take 4
/-- May a batch be written? -/
def mayR (l : List Bs) : Bool := decide (l.length ≤ 1024) && l.all (fun s => decide (s.length ≤ 65536)) && decide ((encS l).length ≤ 524288)
end Pl
set_option maxRecDepth 100000 in
set_option maxHeartbeats 2000000 in
theorem jrecord_any (v : Value) (l : List Bs) (hn : l.length ≤ 1000) (hm : mayR l = true) (w : World) (hk : KT w) (hv : SS w v l) :
    Calls Tryd.prog 80 #[v] w fun e w' => e = .returned (.tuple #[.string ⟨List.toArray (recP l)⟩, .int .i64 (0)]) ∧ Below w.heap.size w w' := by
  unfold mayR at hm
  simp only [Bool.and_eq_true, decide_eq_true_eq, List.all_eq_true] at hm
  obtain ⟨⟨h1, h2⟩, h3⟩ := hm
  have hl : ∀ i, i < l.length → (l.getD i []).length ≤ 65536 := fun i hi => h2 _ (by rw [List.getD_eq_getElem?_getD, List.getElem?_eq_getElem hi]; exact List.getElem_mem _)
  have HL := Lib.hid hl
  have q1 := fun W (hb : Below w.heap.size w W) => clist_any v l W hn (fun i hi => by have := hl i hi; omega) (hv.keep hb)
  have q2 := fun W => ctext_any (encS l) (by omega) W
  have ht := text_len (encS l)
  have q3 := fun W (hb : Below w.heap.size w W) => shasum_any (text (encS l)) (by omega) W (hk.keep hb)
  have hsl := sumP_len (text (encS l))
  have hr : recP l = text (encS l) ++ (sumP (text (encS l))).take 4 := rfl
  rw [hr]
  obtain ⟨va, vc, rfl⟩ := hv.form
  have HV := Lib.hid hv
  have d1 : decide (1024 < (l.length : Int)) = false := by rw [decide_eq_false_iff_not]; omega
  have d2 : decide (524288 < ((encS l).length : Int)) = false := by rw [decide_eq_false_iff_not]; omega
  have d3 : ¬ 524288 < ((encS l).length : Int) := by omega
  clear hl h2 hr hv
  generalize encS l = E at *
  generalize text E = T at *
  generalize sumP T = D at *
  have hcat : ¬ 9223372036854775807 < T.length + 4 := by omega
  have h4 : (D.take 4).length = 4 := by rw [List.length_take]; omega
  go_enter Tryd.func80, Tryd.ntmps80
  go_wp2_with fail
  go_loopw [13] (fun s13 wr => ∃ i : Nat, s13 = .int .i64 (i) ∧ i ≤ l.length ∧ Below w.heap.size w wr) (fun s13 _ => l.length - (intOf s13).toNat)
  case atStart => exact ⟨0, rfl, Nat.zero_le _, Below.refl _ _⟩
  case round =>
    obtain ⟨i, rfl, hi, hb⟩ := hrel
    obtain ⟨wr, hnm⟩ := Below.name hb
    subst hnm
    by_cases hlt : i < l.length
    · have HLT := Lib.hid hlt
      have i1 : decide ((i : Int) < (l.length : Int)) = true := by simp; omega
      have i0 : 0 ≤ (i : Int) ∧ (i : Int) < (l.length : Int) := by omega
      obtain ⟨g, off, e1, hg, c1⟩ := (HV.out.keep hb).at' i hlt
      subst e1
      have hx := HL.out i hlt
      generalize l.getD i [] = x at *
      have d4 : decide (65536 < (x.length : Int)) = false := by rw [decide_eq_false_iff_not]; omega
      have d5 : ¬ 65536 < (x.length : Int) := by omega
      clear hlt hx
      go_wp2_with fail
      exact ⟨⟨i + 1, by go_num, by have := HLT.out; omega, hb⟩, by have := HLT.out; simp [intOf]; omega⟩
    · have e : i = l.length := by omega
      subst e
      clear hlt
      go_wp2_with fail
      refine (q1 _ hb).mono ?_
      rintro e w2 ⟨rfl, hb2⟩
      have hb2 := hb.trans (hb2.mono hb.size)
      go_wp2_with fail
      refine (q2 _).mono ?_
      rintro e w3 ⟨rfl, hb3⟩
      have hb3 := hb2.trans (hb3.mono hb2.size)
      go_wp2_with fail
      refine (q3 _ hb3).mono ?_
      rintro e w4 ⟨rfl, hb4⟩
      have hb4 := hb3.trans (hb4.mono hb3.size)
      go_wp2_with fail
      go_ret2
      exact ⟨by simp, hb4⟩
end Go.Proofs.YtaedgfnfkacimaaDoor

/- Layer 32: the journal: opened on a disk without bytes; a batch is written: the program's walks. -/
set_option linter.unusedSimpArgs false
set_option linter.unusedVariables false
namespace Go.Proofs.YtaedgfnfkacimaaDoor
open Go.RowKit Pl

namespace Pl
/-- The disk behind a write, and the code. -/
def writeD (d : Dk) (l : List Bs) : Dk × Int := if (appD d (recP l)).2 = 0 then syncD (appD d (recP l)).1 else appD d (recP l)
theorem burnt_fuse (d : Dk) : (burntD d).1.fuse = d.fuse ∨ ((burntD d).1.fuse = d.fuse - 1 ∧ 0 < d.fuse) := by
  unfold burntD
  split
  · exact .inl rfl
  · split
    · rename_i h
      exact .inr ⟨rfl, h⟩
    · exact .inl rfl
theorem app_fuse (d : Dk) (t : Bs) : (appD d t).1.fuse = d.fuse ∨ ((appD d t).1.fuse = d.fuse - 1 ∧ 0 < d.fuse) := by
  unfold appD
  split
  · exact .inl rfl
  · split
    · exact .inl rfl
    · split
      · exact burnt_fuse d
      · exact burnt_fuse d
def tornD (c : Int) : Bool := decide (c ≠ 0) && decide (c ≠ 310)
end Pl
theorem jscan_empty (w : World) : Calls Tryd.prog 56 #[.string ⟨List.toArray ([])⟩] w fun e w' => e = .returned (.tuple #[.slice none 0 0, .int .i64 (0)]) ∧ w' = w := by
  go_enter Tryd.func56, Tryd.ntmps56
  go_wp2_with fail
  go_step3
  go_wp2_with fail
  go_step3
  go_wp2_with fail
  go_loopw [2, 3] (fun s2 s3 wr => s2 = .slice none 0 0 ∧ s3 = .int .i64 (0) ∧ wr = w) (fun _ _ _ => 0)
  case atStart => exact ⟨rfl, rfl, rfl⟩
  case round =>
    obtain ⟨rfl, rfl, rfl⟩ := hrel
    go_wp2_with fail
    rw [Exit.noGoto_ret]
    go_ret2
    exact ⟨rfl, rfl⟩
set_option maxRecDepth 100000 in
set_option maxHeartbeats 2000000 in
theorem jopen_empty (av : List Nat) (p : Nat) (d : Dk) (hd : d.s = []) (hf : -9223372036854775808 ≤ d.fuse ∧ d.fuse ≤ 9223372036854775807) (hsy : (syncD d).2 = 0) (w : World) (h : DkV w av p d) :
    Calls Tryd.prog 32 #[.pointer (some ⟨p, 0, none⟩)] w fun e w' => ∃ j, e = .returned (.tuple #[.pointer (some ⟨j, 0, none⟩), .slice none 0 0, .int .i64 (0)]) ∧ w.heap.size ≤ j ∧ Blk w' j #[.pointer (some ⟨p, 0, none⟩), .bool false] ∧ DkV w' (j :: av) p (syncD d).1 ∧ Mod [p] w w' := by
  have q1 := dread_any av p d w h
  rw [hd] at q1
  have q2 := jscan_empty w
  have q3 := dsync_any av p d hf w h
  generalize syncD d = x at *
  obtain ⟨d1, c⟩ := x
  simp only at hsy q3
  subst hsy
  clear hd h
  go_enter Tryd.func32, Tryd.ntmps32
  go_wp2_with fail
  refine q1.mono ?_
  rintro e w1 ⟨rfl, rfl⟩
  go_wp2_with fail
  refine q2.mono ?_
  rintro e w2 ⟨rfl, rfl⟩
  go_wp2_with fail
  refine q3.mono ?_
  rintro e w3 ⟨rfl, h3, m3⟩
  go_wp2_with fail
  go_ret3
  exact ⟨w3.heap.size, rfl, m3.size, Blk.new _ _ _, (h3.more (Nat.le_refl _)).keep (Below.allocS (Below.refl _ _) _), m3.trans (Mod.of_below (Below.allocS (Below.refl _ _) _))⟩
set_option maxRecDepth 100000 in
set_option maxHeartbeats 2000000 in
theorem jwrite_any (av : List Nat) (p j : Nat) (d : Dk) (v : Value) (l : List Bs) (hn : l.length ≤ 1000) (hm : mayR l = true) (hf : -9223372036854775808 ≤ d.fuse ∧ d.fuse ≤ 9223372036854775807) (hrm : 0 ≤ d.room ∧ d.room ≤ 1048576) (hsl : d.s.length ≤ 1048576) (w : World) (hk : KT w) (h : DkV w av p d) (hj : Blk w j #[.pointer (some ⟨p, 0, none⟩), .bool false]) (hpj : p ≠ j) (hjb : j ∈ av) (hav : ∀ x ∈ av, x < w.heap.size) (hv : SS w v l) :
    Calls Tryd.prog 62 #[.pointer (some ⟨j, 0, none⟩), v] w fun e w' => e = .returned (.int .i64 ((writeD d l).2)) ∧ DkV w' av p (writeD d l).1 ∧ Blk w' j #[.pointer (some ⟨p, 0, none⟩), .bool (tornD (writeD d l).2)] ∧ Mod [p, j] w w' := by
  have q1 := jrecord_any v l hn hm w hk hv
  have hlen : (recP l).length ≤ 1000000 := by
    unfold mayR at hm
    simp only [Bool.and_eq_true, decide_eq_true_eq] at hm
    have h1 := text_len (encS l)
    unfold recP
    rw [List.length_append, List.length_take]
    omega
  have q2 := fun W (h : DkV W av p d) (hb : ∀ x ∈ av, x < W.heap.size) => dappend_any av p d (recP l) hf hrm hsl (by omega) W h hb
  have hap := app_fuse d (recP l)
  have q3 := fun W (h : DkV W av p (appD d (recP l)).1) => dsync_any av p (appD d (recP l)).1 (by omega) W h
  have HW : Hid (writeD d l = if (appD d (recP l)).2 = 0 then syncD (appD d (recP l)).1 else appD d (recP l)) := Lib.hid rfl
  generalize writeD d l = R at *
  generalize appD d (recP l) = x at *
  obtain ⟨d1, c1⟩ := x
  simp only at q2 q3 hap
  generalize syncD d1 = y at *
  obtain ⟨d2, c2⟩ := y
  simp only at q3
  generalize recP l = rr at *
  obtain ⟨b1, b2, b3⟩ := id hj
  have HT : Hid (∀ c, tornD c = (decide (c ≠ 0) && decide (c ≠ 310))) := Lib.hid (fun _ => rfl)
  clear hm hlen hap
  go_enter Tryd.func62, Tryd.ntmps62
  go_wp2_with fail
  refine q1.mono ?_
  rintro e w1 ⟨rfl, hb1⟩
  have h1 := h.keep hb1
  have hj1 := hj.keep hb1
  have hbs1 := fun x (hx : x ∈ av) => Nat.lt_of_lt_of_le (hav x hx) hb1.size
  clear b1 b2 b3 q1 h hj
  obtain ⟨b1, b2, b3⟩ := id hj1
  go_wp2_with fail
  refine (q2 _ h1 hbs1).mono ?_
  rintro e w2 ⟨rfl, h2, m2⟩
  have hj2 := hj1.mod m2 (by simp; omega)
  clear b1 b2 b3 q2 h1 hj1
  obtain ⟨b1, b2, b3⟩ := id hj2
  have hkp := hb1
  by_cases h0 : c1 = 0
  · subst h0
    have HR : Hid (R = (d2, c2)) := Lib.hid (by rw [HW.out, if_pos rfl])
    clear HW
    go_wp2_with fail
    refine (q3 _ h2).mono ?_
    rintro e w3 ⟨rfl, h3, m3⟩
    have hj3 := hj2.mod m3 (by simp; omega)
    clear b1 b2 b3 q3 h2 hj2
    obtain ⟨b1, b2, b3⟩ := id hj3
    by_cases h1 : c2 = 0
    · subst h1
      go_wp2_with fail
      go_ret
      have hm := (Mod.refl [p, j] w3).setCell (p := ⟨j, 1, none⟩) (.inl (by simp)) (.bool false)
      have hmj := (Mod.refl [j] w3).setCell (p := ⟨j, 1, none⟩) (.inl (by simp)) (.bool false)
      rw [HR.out]
      refine ⟨rfl, ⟨h3.lt, ?_⟩, ?_, ?_⟩
      · obtain ⟨vx, hx1, hx2⟩ := h3.row
        exact ⟨vx, hx1.mod hmj hjb, hx2.mod hmj (by simp; omega)⟩
      · rw [show tornD 0 = false from rfl]
        simpa using hj3.set 1 (.bool false)
      · exact (((Mod.of_below hb1).trans (m2.sub (by simp))).trans (m3.sub (by simp))).trans hm
    · have g1 : (c2 == 0) = false := by simpa using h1
      have g2 : (c2 != 0) = true := by simpa using h1
      by_cases h5 : c2 = 310
      · subst h5
        go_wp2_with fail
        go_ret
        have hm := (Mod.refl [p, j] w3).setCell (p := ⟨j, 1, none⟩) (.inl (by simp)) (.bool false)
        have hmj := (Mod.refl [j] w3).setCell (p := ⟨j, 1, none⟩) (.inl (by simp)) (.bool false)
        rw [HR.out]
        refine ⟨rfl, ⟨h3.lt, ?_⟩, ?_, ?_⟩
        · obtain ⟨vx, hx1, hx2⟩ := h3.row
          exact ⟨vx, hx1.mod hmj hjb, hx2.mod hmj (by simp; omega)⟩
        · rw [show tornD 310 = false from rfl]
          simpa using hj3.set 1 (.bool false)
        · exact (((Mod.of_below hb1).trans (m2.sub (by simp))).trans (m3.sub (by simp))).trans hm
      · have g3 : (c2 == 310) = false := by simpa using h5
        have g4 : (c2 != 310) = true := by simpa using h5
        have HTT : Hid (tornD c2 = true) := Lib.hid (by unfold tornD; simp [h1, h5])
        clear h1 h5
        go_wp2_with fail
        go_ret
        have hm := (Mod.refl [p, j] w3).setCell (p := ⟨j, 1, none⟩) (.inl (by simp)) (.bool true)
        have hmj := (Mod.refl [j] w3).setCell (p := ⟨j, 1, none⟩) (.inl (by simp)) (.bool true)
        rw [HR.out]
        refine ⟨rfl, ⟨h3.lt, ?_⟩, ?_, ?_⟩
        · obtain ⟨vx, hx1, hx2⟩ := h3.row
          exact ⟨vx, hx1.mod hmj hjb, hx2.mod hmj (by simp; omega)⟩
        · rw [show tornD c2 = true from HTT.out]
          simpa using hj3.set 1 (.bool true)
        · exact (((Mod.of_below hb1).trans (m2.sub (by simp))).trans (m3.sub (by simp))).trans hm
  · have g1 : (c1 == 0) = false := by simpa using h0
    have g2 : (c1 != 0) = true := by simpa using h0
    have HR : Hid (R = (d1, c1)) := Lib.hid (by rw [HW.out, if_neg h0])
    clear HW q3
    by_cases h5 : c1 = 310
    · subst h5
      go_wp2_with fail
      go_ret
      have hm := (Mod.refl [p, j] w2).setCell (p := ⟨j, 1, none⟩) (.inl (by simp)) (.bool false)
      have hmj := (Mod.refl [j] w2).setCell (p := ⟨j, 1, none⟩) (.inl (by simp)) (.bool false)
      rw [HR.out]
      refine ⟨rfl, ⟨h2.lt, ?_⟩, ?_, ?_⟩
      · obtain ⟨vx, hx1, hx2⟩ := h2.row
        exact ⟨vx, hx1.mod hmj hjb, hx2.mod hmj (by simp; omega)⟩
      · rw [show tornD 310 = false from rfl]
        simpa using hj2.set 1 (.bool false)
      · exact ((Mod.of_below hb1).trans (m2.sub (by simp))).trans hm
    · have g3 : (c1 == 310) = false := by simpa using h5
      have g4 : (c1 != 310) = true := by simpa using h5
      have HTT : Hid (tornD c1 = true) := Lib.hid (by unfold tornD; simp [h0, h5])
      clear h0 h5
      go_wp2_with fail
      go_ret
      have hm := (Mod.refl [p, j] w2).setCell (p := ⟨j, 1, none⟩) (.inl (by simp)) (.bool true)
      have hmj := (Mod.refl [j] w2).setCell (p := ⟨j, 1, none⟩) (.inl (by simp)) (.bool true)
      rw [HR.out]
      refine ⟨rfl, ⟨h2.lt, ?_⟩, ?_, ?_⟩
      · obtain ⟨vx, hx1, hx2⟩ := h2.row
        exact ⟨vx, hx1.mod hmj hjb, hx2.mod hmj (by simp; omega)⟩
      · rw [show tornD c1 = true from HTT.out]
        simpa using hj2.set 1 (.bool true)
      · exact ((Mod.of_below hb1).trans (m2.sub (by simp))).trans hm
end Go.Proofs.YtaedgfnfkacimaaDoor

/- trust.Store.write: changes are written to the journal. The program's walk. -/
set_option linter.unusedSimpArgs false
set_option linter.unusedVariables false
namespace Go.Proofs.YtaedgfnfkacimaaDoor
open Go.RowKit Go.Shelf Pl

set_option maxRecDepth 100000 in
set_option maxHeartbeats 2000000 in
theorem twrite_any (av : List Nat) (p j q : Nat) (m : Value) (span : Int) (d : Dk) (v : Value) (l : List Bs) (hne : l ≠ []) (hn : l.length ≤ 1000) (hm : mayR l = true) (hf : -9223372036854775808 ≤ d.fuse ∧ d.fuse ≤ 9223372036854775807) (hrm : 0 ≤ d.room ∧ d.room ≤ 1048576) (hsl : d.s.length ≤ 1048576) (w : World) (hk : KT w) (h : DkV w av p d) (hj : Blk w j #[.pointer (some ⟨p, 0, none⟩), .bool false]) (hpj : p ≠ j) (hjb : j ∈ av) (hav : ∀ x ∈ av, x < w.heap.size) (B : Blk w q #[m, .int .i64 (span), .pointer (some ⟨j, 0, none⟩)]) (hv : SS w v l) :
    Calls Tryd.prog 37 #[.pointer (some ⟨q, 0, none⟩), v] w fun e w' => e = .returned (.int .i64 ((writeD d l).2)) ∧ DkV w' av p (writeD d l).1 ∧ Blk w' j #[.pointer (some ⟨p, 0, none⟩), .bool (tornD (writeD d l).2)] ∧ Mod [p, j] w w' := by
  have q1 := jwrite_any av p j d v l hn hm hf hrm hsl w hk h hj hpj hjb hav hv
  obtain ⟨a, c, rfl⟩ := hv.form
  have hls := hv.small
  have hl : l.length ≠ 0 := fun e => hne (List.length_eq_zero_iff.1 e)
  have e0 : ((l.length : Int) == 0) = false := by rw [beq_eq_false_iff_ne]; omega
  generalize writeD d l = x at *
  obtain ⟨b1, b2, b3⟩ := id B
  clear hne hm hf hrm hsl h hj B hv hl
  go_enter Tryd.func37, Tryd.ntmps37
  go_wp2_with fail
  refine q1.mono ?_
  rintro e w1 ⟨rfl, h1, h2, h3⟩
  go_wp2_with fail
  go_ret
  exact ⟨rfl, h1, h2, h3⟩
end Go.Proofs.YtaedgfnfkacimaaDoor

/- trust.Open on a disk without bytes. The program's walk. -/
set_option linter.unusedSimpArgs false
set_option linter.unusedVariables false
namespace Go.Proofs.YtaedgfnfkacimaaDoor
open Go.RowKit Go.WideMaps Go.Maps Go.Shelf Pl

/-- What is trusted lies in the store's map as it is. -/
def hT (v : Value) : Option (DataW Value × List MemPlace) := some (.held v, [])
theorem hT_inv {v u : Value} {ps : List MemPlace} (h : hT v = some (.held u, ps)) : v = u := by
  unfold hT at h
  injection h with h
  injection h with h _
  injection h

set_option maxRecDepth 100000 in
set_option maxHeartbeats 2000000 in
theorem topen_empty (av : List Nat) (p : Nat) (d : Dk) (span : Int) (h0 : 1 ≤ span) (h1 : span ≤ 1099511627776) (hd : d.s = []) (hf : -9223372036854775808 ≤ d.fuse ∧ d.fuse ≤ 9223372036854775807) (hsy : (syncD d).2 = 0) (w : World) (h : DkV w av p d) :
    Calls Tryd.prog 12 #[.pointer (some ⟨p, 0, none⟩), .int .i64 (span)] w fun e w' => ∃ j m q, e = .returned (.tuple #[.pointer (some ⟨q, 0, none⟩), .int .i64 (0)]) ∧ w.heap.size ≤ j ∧ j < m ∧ m < q ∧ Blk w' j #[.pointer (some ⟨p, 0, none⟩), .bool false] ∧ DkV w' (q :: m :: j :: av) p (syncD d).1 ∧ w'.ownsMap (H := Value) Tryd.prog 3 hT m 0 (.map []) ∧ Blk w' q #[.map (some m), .int .i64 (span), .pointer (some ⟨j, 0, none⟩)] ∧ Mod [p] w w' := by
  have hmm := @run_makeMap Tryd.prog
  have q1 := jopen_empty av p d hd hf hsy w h
  have d0 : decide (span < 1) = false := by simp; omega
  have d1 : decide (1099511627776 < span) = false := by simp; omega
  clear hd hf hsy h
  go_enter Tryd.func12, Tryd.ntmps12
  go_wp2_with fail
  refine q1.mono ?_
  rintro e w1 ⟨j, rfl, hj, hB, hD, hm⟩
  have hown : (w1.alloc (.map #[] 0)).ownsMap (H := Value) Tryd.prog 3 hT w1.heap.size 0 (.map []) := World.ownsMap_made _ _ _ _
  have hbm : Below w1.heap.size w1 (w1.alloc (.map #[] 0)) := (Below.refl _ _).alloc (Nat.le_refl _) _
  have hbm2 := Below.allocS hbm (.cells #[.map (some w1.heap.size), .int .i64 (span), .pointer (some ⟨j, 0, none⟩)] 77)
  have hjl := hB.lt
  have hB2 := hB.keep hbm2
  have hD2 := ((hD.more (x := w1.heap.size) (Nat.le_refl _)).more (x := w1.heap.size + 1) (by omega)).keep hbm2
  have hown2 := hown.alloc (.cells #[.map (some w1.heap.size), .int .i64 (span), .pointer (some ⟨j, 0, none⟩)] 77)
  have hm2 := hm.trans (Mod.of_below hbm2)
  have hq : Blk ((w1.alloc (.map #[] 0)).alloc (.cells #[.map (some w1.heap.size), .int .i64 (span), .pointer (some ⟨j, 0, none⟩)] 77)) (w1.heap.size + 1) #[.map (some w1.heap.size), .int .i64 (span), .pointer (some ⟨j, 0, none⟩)] := Blk.new' (by simp)
  clear q1 hown hB hD hm
  go_wp2_with fail
  go_loopw [36] (fun s36 wr => s36 = .int .i64 0 ∧ wr = (w1.alloc (.map #[] 0)).alloc (.cells #[.map (some w1.heap.size), .int .i64 (span), .pointer (some ⟨j, 0, none⟩)] 77)) (fun s36 _ => 0)
  case atStart => exact ⟨rfl, rfl⟩
  case round =>
    obtain ⟨rfl, rfl⟩ := hrel
    go_wp2_with fail
    go_ret2
    exact ⟨j, w1.heap.size, w1.heap.size + 1, rfl, hj, hjl, by omega, hB2, hD2, hown2, hq, hm2⟩
end Go.Proofs.YtaedgfnfkacimaaDoor

/- What is trusted, by heights: the store's map. -/
set_option linter.unusedSimpArgs false
set_option linter.unusedVariables false
namespace Go.Proofs.YtaedgfnfkacimaaDoor
open Go.RowKit Go.WideMaps Go.Maps Go.Sort Go.Shelf Pl

/-- The value of none. -/
abbrev nilT : Value := .agg #[.int .i64 (0), .int .i64 (0), .int .i64 (0), .bool false, .string ⟨List.toArray ([])⟩, .string ⟨List.toArray ([])⟩, .string ⟨List.toArray ([])⟩, .string ⟨List.toArray ([])⟩, .string ⟨List.toArray ([])⟩, .string ⟨List.toArray ([])⟩, .slice none 0 0, .slice none 0 0, .int .i64 (0)]
theorem zeroTr (w : World) : (zeroValue 27).run Tryd.prog w = .ok nilT w := by
  have h : (Tryd.prog.info? 27).map (·.zero) = some (some nilT) := by kernel_rfl
  obtain ⟨i, hi, hz⟩ := Option.map_eq_some_iff.1 h
  simp [zeroValue, typeInfo, hi, hz]
theorem keyedI : Keyed Tryd.prog 3 := int_keyed Tryd.underlying3
theorem keyI (k : Int) (hk : -9223372036854775808 ≤ k ∧ k ≤ 9223372036854775807) : keyOf Tryd.prog 3 (.int .i64 (k)) = some (.int .i64 k) := by
  have h1 : IntKind.i64.min = -9223372036854775808 := by decide
  have h2 : IntKind.i64.max = 9223372036854775807 := by decide
  exact keyOf_int_mk Tryd.underlying3 (by simp only [Lit.wf, Bool.and_eq_true, decide_eq_true_eq, h1, h2]; exact hk)
theorem isKeyI (k : Int) : WideAt.IsKeyLit (.int .i64 k) := by first | trivial | exact ⟨_, _, rfl⟩ | simp [WideAt.IsKeyLit]
def hts (T : List (Int × Tr)) : List Int := T.map (·.1)
/-- What a map of those that are trusted holds. -/
structure TrD (w : World) (base : Nat) (D : DataW Value) (T : List (Int × Tr)) : Prop where
  has : ∀ k : Int, Maps.has D (.int .i64 k) = decide (k ∈ hts T)
  val : ∀ e ∈ T, ∃ v, D.atKey (.int .i64 e.1) (.held nilT) = .held v ∧ TRow w base v e.2
  nodup : (hts T).Nodup
  size : Maps.size D = T.length
/-- A map of those that are trusted. -/
def TrM (w : World) (base m : Nat) (T : List (Int × Tr)) : Prop := ∃ D, w.ownsMap (H := Value) Tryd.prog 3 hT m T.length D ∧ TrD w base D T
theorem TRow.keep {W w : World} {base : Nat} {v : Value} {t : Tr} (h : TRow W base v t) (hb : Below W.heap.size W w) : TRow w base v t := by
  obtain ⟨sk, ms, h1, h2, h3⟩ := h
  exact ⟨sk, ms, h1, h2.keep hb, h3.keep hb⟩
theorem TrM.nil {w : World} {base m : Nat} (h : w.ownsMap (H := Value) Tryd.prog 3 hT m 0 (.map [])) : TrM w base m [] :=
  ⟨_, h, fun k => (by rw [has_eq]; simp [hts]), fun e he => (by cases he), (by simp [hts]), rfl⟩
theorem TrM.lt {w : World} {base m : Nat} {T : List (Int × Tr)} (h : TrM w base m T) : m < w.heap.size := by
  obtain ⟨D, ho, _⟩ := h
  exact ho.lt
theorem tmap_at {H : Type} {R : Value → Option (DataW H × List MemPlace)} {W w : World} {t : TypeId} {b n : Nat} {D : DataW H} (h : W.ownsMap Tryd.prog t R b n D) (hb : w.heap[b]? = W.heap[b]?) : w.ownsMap Tryd.prog t R b n D := by
  obtain ⟨es, clock, h1, h2⟩ := h
  exact ⟨es, clock, hb.trans h1, h2⟩
theorem TrM.keep {W w : World} {base m : Nat} {T : List (Int × Tr)} (h : TrM W base m T) (hb : Below W.heap.size W w) : TrM w base m T := by
  obtain ⟨D, ho, hD⟩ := h
  exact ⟨D, tmap_at ho (hb.block m ho.lt), hD.has, fun e he => (by obtain ⟨v, h1, h2⟩ := hD.val e he; exact ⟨v, h1, h2.keep hb⟩), hD.nodup, hD.size⟩
/-- v, ok := m[k]. -/
theorem TrM.look {w : World} {base m : Nat} {T : List (Int × Tr)} (h : TrM w base m T) (k : Int) (hk : -9223372036854775808 ≤ k ∧ k ≤ 9223372036854775807) :
    ∃ v, (Instr.lookup 75 (.map (some m)) (.int .i64 (k)) true).run Tryd.prog w = .ok (.tuple #[v, .bool (decide (k ∈ hts T))]) w ∧ (∀ t, (k, t) ∈ T → TRow w base v t) ∧ (k ∉ hts T → v = nilT) := by
  obtain ⟨D, ho, hD⟩ := h
  obtain ⟨v, ps, hrun, hv⟩ := ho.look_ok keyedI Tryd.underlying75 (zeroTr w) (zd := .held nilT) (zp := []) rfl (keyI k hk)
  rw [hD.has] at hrun
  refine ⟨v, hrun, fun t ht => ?_, fun hn => ?_⟩
  · obtain ⟨u, h1, h2⟩ := hD.val (k, t) ht
    rw [h1] at hv
    rw [hT_inv hv]
    exact h2
  · rw [atKey_of_not_has (by rw [hD.has]; simpa using hn)] at hv
    exact hT_inv hv
end Go.Proofs.YtaedgfnfkacimaaDoor

/- The laws of the library that the sorts lean on, at this program. -/
set_option linter.unusedVariables false
namespace Go.Proofs.YtaedgfnfkacimaaDoor
open Go.Shelf

def laysCloneMap_ren : Go.Shelf.Ren := ⟨fun | 5 => 34 | 7 => 59 | n => n, fun | 23 => 75 | 25 => 3 | 3 => 27 | 4 => 4 | 20 => 20 | n => n, fun | n => n⟩
theorem laysCloneMap : Go.Proofs.SlLaysW.n5 Tryd.prog laysCloneMap_ren := {
  mixed := by kernel_rfl
  f5 := ⟨Tryd.f34.name, by decide, Tryd.func34.trans (congrArg some (by kernel_rfl))⟩
  f7 := Tryd.func59.trans (congrArg some (by kernel_rfl))
  t4 := Tryd.underlying4
  a4 := Tryd.isAgg4
  z4 := Tryd.sizeOf4
  v4 := Tryd.zeroValue4
  t20 := Tryd.underlying20
  a20 := Tryd.isAgg20
  z20 := Tryd.sizeOf20
  v20 := Tryd.zeroValue20
  t23 := Tryd.underlying75
  a23 := Tryd.isAgg75
  z23 := Tryd.sizeOf75
  v23 := Tryd.zeroValue75 }

end Go.Proofs.YtaedgfnfkacimaaDoor

/- What is trusted, by heights: one comes, or takes another's place. -/
set_option linter.unusedSimpArgs false
set_option linter.unusedVariables false
namespace Go.Proofs.YtaedgfnfkacimaaDoor
open Go.RowKit Go.WideMaps Go.Maps Go.Sort Go.Shelf Pl

theorem TrD.new {w : World} {base : Nat} {T : List (Int × Tr)} {D : DataW Value} (h : TrD w base D T) (hD : Tidy D) (k : Int) (t : Tr) (v : Value) (hn : k ∉ hts T) (hv : TRow w base v t) : TrD w base (D.put (.int .i64 k) (.held v)) (T ++ [(k, t)]) := by
  refine ⟨fun k' => ?_, fun e he => ?_, ?_, ?_⟩
  · by_cases e : k' = k
    · subst e
      rw [has_put_same hD.isMap (isKeyI k')]
      simp [hts]
    · rw [has_put_other (by intro h; injection h with _ h; exact e h), h.has, decide_eq_decide]
      unfold hts
      rw [List.map_append, List.mem_append]
      simp [e]
  · rcases List.mem_append.1 he with he | he
    · obtain ⟨u, h1, h2⟩ := h.val e he
      have hne : e.1 ≠ k := fun h => hn (by rw [← h]; exact List.mem_map.2 ⟨e, he, rfl⟩)
      exact ⟨u, by rw [atKey_put_other (by intro h; injection h with _ h; exact hne h)]; exact h1, h2⟩
    · rw [List.mem_singleton] at he
      subst he
      exact ⟨v, atKey_put_same hD.isMap (isKeyI k) _ _, hv⟩
  · unfold hts
    rw [List.map_append, List.nodup_append]
    refine ⟨h.nodup, by simp, fun a ha b hb e => ?_⟩
    simp only [List.map_cons, List.map_nil, List.mem_singleton] at hb
    subst hb e
    exact hn ha
  · rw [size_put hD, h.has, if_neg (by simpa using hn), h.size, List.length_append]
    rfl
theorem tclone_any (base m : Nat) (T : List (Int × Tr)) (w : World) (h : TrM w base m T) :
    Calls Tryd.prog 34 #[.map (some m)] w fun e w' => e = .returned (.map (some w.heap.size)) ∧ TrM w' base w.heap.size T ∧ TrM w' base m T ∧ Below w.heap.size w w' := by
  obtain ⟨D, ho, hD⟩ := h
  refine (AnyW.maps_Clone_owns laysCloneMap 3 hT m T.length D w ho).mono ?_
  rintro e w' ⟨he, h1, h2, hb⟩
  have hD2 : TrD w' base D T := ⟨hD.has, fun e he => (by obtain ⟨v, h1, h2⟩ := hD.val e he; exact ⟨v, h1, h2.keep hb⟩), hD.nodup, hD.size⟩
  exact ⟨he, ⟨D, h1, hD2⟩, ⟨D, h2, hD2⟩, hb⟩
end Go.Proofs.YtaedgfnfkacimaaDoor

/- The laws of the library that the sorts lean on, at this program. -/
set_option linter.unusedVariables false
namespace Go.Proofs.YtaedgfnfkacimaaDoor
open Go.Shelf

def laysCloneS_ren : Go.Shelf.Ren := ⟨fun | 41 => 60 | n => n, fun | 22 => 22 | 23 => 9 | 4 => 4 | n => n, fun | n => n⟩
theorem laysCloneS : Go.Proofs.SlLaysE0.n41 Tryd.prog laysCloneS_ren := {
  mixed := by kernel_rfl
  f41 := ⟨Tryd.f60.name, by decide, Tryd.func60.trans (congrArg some (by kernel_rfl))⟩
  t4 := Tryd.underlying4
  a4 := Tryd.isAgg4
  z4 := Tryd.sizeOf4
  v4 := Tryd.zeroValue4
  t22 := Tryd.underlying22
  a22 := Tryd.isAgg22
  z22 := Tryd.sizeOf22
  v22 := Tryd.zeroValue22 }
def laysCloneM_ren : Go.Shelf.Ren := ⟨fun | 41 => 61 | n => n, fun | 22 => 25 | 23 => 85 | 4 => 4 | n => n, fun | n => n⟩
theorem laysCloneM : Go.Proofs.SlLaysE0.n41 Tryd.prog laysCloneM_ren := {
  mixed := by kernel_rfl
  f41 := ⟨Tryd.f61.name, by decide, Tryd.func61.trans (congrArg some (by kernel_rfl))⟩
  t4 := Tryd.underlying4
  a4 := Tryd.isAgg4
  z4 := Tryd.sizeOf4
  v4 := Tryd.zeroValue4
  t22 := Tryd.underlying25
  a22 := Tryd.isAgg25
  z22 := Tryd.sizeOf25
  v22 := Tryd.zeroValue25 }

end Go.Proofs.YtaedgfnfkacimaaDoor

/- Copies of texts and of members; what is trusted as new memory (trust.own). -/
set_option linter.unusedSimpArgs false
set_option linter.unusedVariables false
namespace Go.Proofs.YtaedgfnfkacimaaDoor
open Go.RowKit Go.Shelf Pl

/-- A slice of a block's own cells, or of none. -/
def PlainS (v : Value) : Prop := ∀ a n c, v = .slice a n c → a = none ∨ ∃ g off, a = some ⟨g, off, none⟩
theorem SRow.plain {w : World} {base : Nat} {v : Value} {l : List Bs} (h : SRow w base v l) : PlainS v := by
  rcases h.cells with ⟨rfl, rfl⟩ | ⟨g, cap, rfl, _⟩
  · intro a n c e
    injection e with e _ _
    exact .inl e.symm
  · intro a n c e
    injection e with e _ _
    exact .inr ⟨g, 0, e.symm⟩
theorem MRow.plain {w : World} {base : Nat} {v : Value} {l : List (Bs × Int)} (h : MRow w base v l) : PlainS v := by
  rcases h.cells with ⟨rfl, rfl⟩ | ⟨g, cap, rfl, _⟩
  · intro a n c e
    injection e with e _ _
    exact .inl e.symm
  · intro a n c e
    injection e with e _ _
    exact .inr ⟨g, 0, e.symm⟩
theorem cloneT_any (v : Value) (L : List Bs) (w : World) (h : SS w v L) (hp : PlainS v) (hL : L.length ≤ 1000000) :
    Calls Tryd.prog 60 #[v] w fun e w' => ∃ v', e = .returned v' ∧ SRow w' w.heap.size v' L ∧ Below w.heap.size w w' := by
  obtain ⟨a, cap, rfl, h1, h2, h3⟩ := h
  obtain ⟨i0, hi, hz0, hz1, hz2⟩ := info_parts infoStr
  rcases hp _ _ _ rfl with rfl | ⟨g, off, rfl⟩
  · obtain rfl : L = [] := by
      apply Classical.byContradiction
      intro hn
      obtain ⟨g, off, e, _⟩ := h3 hn
      cases e
    refine (AnyE.slices_Clone_nil laysCloneS 0 cap w).mono ?_
    rintro e w' ⟨rfl, rfl⟩
    exact ⟨_, rfl, SRow.nil _ _, Below.refl _ _⟩
  · have h4 : SSrc w g off L := by
      intro i hi
      obtain ⟨g', off', e, _, h⟩ := h3 (by intro e; rw [e] at hi; simp at hi)
      cases e
      exact h i hi
    refine (AnyE.slices_Clone laysCloneS i0 _ 1 16 hi hz0 hz1 hz2 rfl (by decide) Tryd.sizeOf9 g off L.length cap (sv L) w (by rw [sv_len]; omega) (by unfold maxLen; omega) (by omega) (fun j u hj => ?_) (sone L)).mono ?_
    · have hj2 : j < L.length := by
        have := (List.getElem?_eq_some_iff.1 hj).1
        rw [sv_len] at this; exact this
      rw [h4 j hj2]
      rw [← hj]
      simp [sv, List.getD, List.getElem?_eq_getElem hj2]
    · rintro e w' ⟨v', rfl, hr, _, hb⟩
      exact ⟨v', rfl, hr, hb⟩
theorem cloneM_any (v : Value) (L : List (Bs × Int)) (w : World) (h : MS w v L) (hp : PlainS v) (hL : L.length ≤ 1000000) :
    Calls Tryd.prog 61 #[v] w fun e w' => ∃ v', e = .returned v' ∧ MRow w' w.heap.size v' L ∧ Below w.heap.size w w' := by
  obtain ⟨a, cap, rfl, h1, h2, h3⟩ := h
  obtain ⟨i0, hi, hz0, hz1, hz2⟩ := info_parts infoMem
  rcases hp _ _ _ rfl with rfl | ⟨g, off, rfl⟩
  · obtain rfl : L = [] := by
      apply Classical.byContradiction
      intro hn
      obtain ⟨g, off, e, _⟩ := h3 hn
      cases e
    refine (AnyE.slices_Clone_nil laysCloneM 0 cap w).mono ?_
    rintro e w' ⟨rfl, rfl⟩
    exact ⟨_, rfl, MRow.nil _ _, Below.refl _ _⟩
  · have h4 : MSrc w g off L := by
      intro i hi
      obtain ⟨g', off', e, _, h⟩ := h3 (by intro e; rw [e] at hi; simp at hi)
      cases e
      exact h i hi
    refine (AnyE.slices_Clone laysCloneM i0 _ 2 24 hi hz0 hz1 hz2 rfl (by decide) Tryd.sizeOf85 g off L.length cap (mv L) w (mv_len L) (by unfold maxLen; omega) (by omega) (fun j u hj => ?_) (mone L)).mono ?_
    · have hj2 : j < L.length * 2 := by
        have := (List.getElem?_eq_some_iff.1 hj).1
        rw [mv_len] at this; exact this
      obtain ⟨i, rfl | rfl⟩ : ∃ i, j = i * 2 ∨ j = i * 2 + 1 := ⟨j / 2, by omega⟩
      · rw [(h4 i (by omega)).1, ← hj, (mv_at L i (by omega)).1]
      · rw [show off + (i * 2 + 1) = off + i * 2 + 1 from by omega, (h4 i (by omega)).2, ← hj, (mv_at L i (by omega)).2]
    · rintro e w' ⟨v', rfl, hr, _, hb⟩
      exact ⟨v', rfl, hr, hb⟩
end Go.Proofs.YtaedgfnfkacimaaDoor

/- What is trusted as new memory (trust.own). -/
set_option linter.unusedSimpArgs false
set_option linter.unusedVariables false
namespace Go.Proofs.YtaedgfnfkacimaaDoor
open Go.RowKit Go.Shelf Pl

set_option maxRecDepth 100000 in
set_option maxHeartbeats 2000000 in
theorem tr_own (a1 a2 a3 : Int) (lb : Bool) (pa st rc tx me ne : Bs) (K : List Bs) (L : List (Bs × Int)) (ta : Int) (sk ms : Value) (w : World) (h1 : SS w sk K) (h2 : MS w ms L) (p1 : PlainS sk) (p2 : PlainS ms) (l1 : K.length ≤ 1000000) (l2 : L.length ≤ 1000000) :
    Calls Tryd.prog 36 #[.agg #[.int .i64 (a1), .int .i64 (a2), .int .i64 (a3), .bool lb, .string ⟨List.toArray (pa)⟩, .string ⟨List.toArray (st)⟩, .string ⟨List.toArray (rc)⟩, .string ⟨List.toArray (tx)⟩, .string ⟨List.toArray (me)⟩, .string ⟨List.toArray (ne)⟩, sk, ms, .int .i64 (ta)]] w fun e w' => ∃ v, e = .returned v ∧ TRow w' w.heap.size v ⟨⟨a1, a2, a3, lb, pa, st, rc, tx, me, ne, K⟩, L, ta⟩ ∧ Below w.heap.size w w' := by
  have B0 : Blk (w.alloc (.cells #[.int .i64 (a1), .int .i64 (a2), .int .i64 (a3), .bool lb, .string ⟨List.toArray (pa)⟩, .string ⟨List.toArray (st)⟩, .string ⟨List.toArray (rc)⟩, .string ⟨List.toArray (tx)⟩, .string ⟨List.toArray (me)⟩, .string ⟨List.toArray (ne)⟩, sk, ms, .int .i64 (ta)] 27)) w.heap.size #[.int .i64 (a1), .int .i64 (a2), .int .i64 (a3), .bool lb, .string ⟨List.toArray (pa)⟩, .string ⟨List.toArray (st)⟩, .string ⟨List.toArray (rc)⟩, .string ⟨List.toArray (tx)⟩, .string ⟨List.toArray (me)⟩, .string ⟨List.toArray (ne)⟩, sk, ms, .int .i64 (ta)] := Blk.new _ _ _
  have hb0 : Below w.heap.size w (w.alloc (.cells #[.int .i64 (a1), .int .i64 (a2), .int .i64 (a3), .bool lb, .string ⟨List.toArray (pa)⟩, .string ⟨List.toArray (st)⟩, .string ⟨List.toArray (rc)⟩, .string ⟨List.toArray (tx)⟩, .string ⟨List.toArray (me)⟩, .string ⟨List.toArray (ne)⟩, sk, ms, .int .i64 (ta)] 27)) := Below.allocS (Below.refl _ _) _
  have B1 := B0.alloc (.cells #[.int .i64 (0), .int .i64 (0), .int .i64 (0), .bool false, .string ⟨List.toArray ([])⟩, .string ⟨List.toArray ([])⟩, .string ⟨List.toArray ([])⟩, .string ⟨List.toArray ([])⟩, .string ⟨List.toArray ([])⟩, .string ⟨List.toArray ([])⟩, .slice none 0 0, .slice none 0 0, .int .i64 (0)] 27)
  have hb1 := Below.allocS hb0 (.cells #[.int .i64 (0), .int .i64 (0), .int .i64 (0), .bool false, .string ⟨List.toArray ([])⟩, .string ⟨List.toArray ([])⟩, .string ⟨List.toArray ([])⟩, .string ⟨List.toArray ([])⟩, .string ⟨List.toArray ([])⟩, .string ⟨List.toArray ([])⟩, .slice none 0 0, .slice none 0 0, .int .i64 (0)] 27)
  have Z1 : Blk ((w.alloc (.cells #[.int .i64 (a1), .int .i64 (a2), .int .i64 (a3), .bool lb, .string ⟨List.toArray (pa)⟩, .string ⟨List.toArray (st)⟩, .string ⟨List.toArray (rc)⟩, .string ⟨List.toArray (tx)⟩, .string ⟨List.toArray (me)⟩, .string ⟨List.toArray (ne)⟩, sk, ms, .int .i64 (ta)] 27)).alloc (.cells #[.int .i64 (0), .int .i64 (0), .int .i64 (0), .bool false, .string ⟨List.toArray ([])⟩, .string ⟨List.toArray ([])⟩, .string ⟨List.toArray ([])⟩, .string ⟨List.toArray ([])⟩, .string ⟨List.toArray ([])⟩, .string ⟨List.toArray ([])⟩, .slice none 0 0, .slice none 0 0, .int .i64 (0)] 27)) (w.heap.size + 1) (List.toArray [.int .i64 (0), .int .i64 (0), .int .i64 (0), .bool false, .string ⟨List.toArray ([])⟩, .string ⟨List.toArray ([])⟩, .string ⟨List.toArray ([])⟩, .string ⟨List.toArray ([])⟩, .string ⟨List.toArray ([])⟩, .string ⟨List.toArray ([])⟩, .slice none 0 0, .slice none 0 0, .int .i64 (0)]) := Blk.new' (by simp)
  have q1 := cloneT_any sk K _ (h1.keep hb1) p1 l1
  obtain ⟨b1, b2, b3⟩ := id B1
  go_enter Tryd.func36, Tryd.ntmps36
  go_wp2_with fail
  refine q1.mono ?_
  rintro e w1 ⟨sk', rfl, r1, hb⟩
  have hs1 : w.heap.size + 2 ≤ w1.heap.size := by have := hb.size; simpa using this
  have B2 := B1.keep hb
  have Z2 := Z1.keep hb
  have hb2 := hb1.trans (hb.mono hb1.size)
  have r1 := SRow.low (c := w.heap.size + 2) r1 (by simp)
  obtain ⟨va, vc, rfl⟩ := r1.form
  clear q1 hb b1 b2 b3 B0 B1 Z1 hb0 hb1
  have m3 := (Mod.refl [w.heap.size] w1).setCell (p := ⟨w.heap.size, 10, none⟩) (.inl (by simp)) (.slice va K.length vc)
  have B3 : Blk (w1.setCell ⟨w.heap.size, 10, none⟩ (.slice va K.length vc)) w.heap.size #[.int .i64 (a1), .int .i64 (a2), .int .i64 (a3), .bool lb, .string ⟨List.toArray (pa)⟩, .string ⟨List.toArray (st)⟩, .string ⟨List.toArray (rc)⟩, .string ⟨List.toArray (tx)⟩, .string ⟨List.toArray (me)⟩, .string ⟨List.toArray (ne)⟩, .slice va K.length vc, ms, .int .i64 (ta)] := by simpa using B2.set 10 (.slice va K.length vc)
  have Z3 := Z2.mod m3 (by simp)
  have hb3 := Below.mod hb2 m3 hb2.size (by simp)
  have r3 := SRow.mod r1 m3 (by omega)
  have q2 := cloneM_any ms L _ (h2.keep hb3) p2 l2
  obtain ⟨b1, b2, b3⟩ := id B2
  obtain ⟨c1, c2, c3⟩ := id B3
  go_wp2_with fail
  refine q2.mono ?_
  rintro e w4 ⟨ms', rfl, r4, hb⟩
  obtain ⟨ua, uc, rfl⟩ := r4.form
  have hs4 : w1.heap.size ≤ w4.heap.size := by have := hb.size; simpa using this
  have B4 := B3.keep hb
  have Z4 := Z3.keep hb
  have hb4 := hb3.trans (hb.mono hb3.size)
  have r5 := r3.keep hb
  have r4 := MRow.low (c := w.heap.size + 2) r4 (by simpa using hs1)
  clear q2 hb b1 b2 b3 c1 c2 c3 B2 B3 Z2 Z3 hb2 hb3 m3 r1 r3
  have m5 := (Mod.refl [w.heap.size] w4).setCell (p := ⟨w.heap.size, 11, none⟩) (.inl (by simp)) (.slice ua L.length uc)
  have B5 : Blk (w4.setCell ⟨w.heap.size, 11, none⟩ (.slice ua L.length uc)) w.heap.size (List.toArray [.int .i64 (a1), .int .i64 (a2), .int .i64 (a3), .bool lb, .string ⟨List.toArray (pa)⟩, .string ⟨List.toArray (st)⟩, .string ⟨List.toArray (rc)⟩, .string ⟨List.toArray (tx)⟩, .string ⟨List.toArray (me)⟩, .string ⟨List.toArray (ne)⟩, .slice va K.length vc, .slice ua L.length uc, .int .i64 (ta)]) := by simpa using B4.set 11 (.slice ua L.length uc)
  have Z5 := Z4.mod m5 (by simp)
  have hb5 := Below.mod hb4 m5 hb4.size (by simp)
  have r6 := SRow.mod r5 m5 (by omega)
  have r7 := MRow.mod r4 m5 (by omega)
  obtain ⟨b1, b2, b3⟩ := id B4
  clear Z4 hb4 r5 r4 m5
  go_wp2_with (first | (refine wpList_rowLoad row_trust rfl (.tmp 1) rfl rfl (vs := [.int .i64 (a1), .int .i64 (a2), .int .i64 (a3), .bool lb, .string ⟨List.toArray (pa)⟩, .string ⟨List.toArray (st)⟩, .string ⟨List.toArray (rc)⟩, .string ⟨List.toArray (tx)⟩, .string ⟨List.toArray (me)⟩, .string ⟨List.toArray (ne)⟩, .slice va K.length vc, .slice ua L.length uc, .int .i64 (ta)]) rfl B5 ?_) | (refine wpList_rowStore row_trust rfl rfl (.tmp 2) (.tmp 13) rfl rfl rfl (vs := [.int .i64 (a1), .int .i64 (a2), .int .i64 (a3), .bool lb, .string ⟨List.toArray (pa)⟩, .string ⟨List.toArray (st)⟩, .string ⟨List.toArray (rc)⟩, .string ⟨List.toArray (tx)⟩, .string ⟨List.toArray (me)⟩, .string ⟨List.toArray (ne)⟩, .slice va K.length vc, .slice ua L.length uc, .int .i64 (ta)]) rfl (by simp [Value.oneCell']) (us := [.int .i64 (0), .int .i64 (0), .int .i64 (0), .bool false, .string ⟨List.toArray ([])⟩, .string ⟨List.toArray ([])⟩, .string ⟨List.toArray ([])⟩, .string ⟨List.toArray ([])⟩, .string ⟨List.toArray ([])⟩, .string ⟨List.toArray ([])⟩, .slice none 0 0, .slice none 0 0, .int .i64 (0)]) rfl Z5 ?_; intro w6 N6 m6))
  have hld := row_loadVar row_trust w6 (vs := [.int .i64 (a1), .int .i64 (a2), .int .i64 (a3), .bool lb, .string ⟨List.toArray (pa)⟩, .string ⟨List.toArray (st)⟩, .string ⟨List.toArray (rc)⟩, .string ⟨List.toArray (tx)⟩, .string ⟨List.toArray (me)⟩, .string ⟨List.toArray (ne)⟩, .slice va K.length vc, .slice ua L.length uc, .int .i64 (ta)]) rfl N6
  refine bodyPost_ret (results_cell1 rfl _ _ _ _ rfl hld) rfl ?_
  exact ⟨_, rfl, ⟨_, _, rfl, SRow.low (r6.mod m6 (by omega)) (by omega), MRow.low (r7.mod m6 (by omega)) (by omega)⟩, Below.mod hb5 m6 hb5.size (by simp)⟩
end Go.Proofs.YtaedgfnfkacimaaDoor
