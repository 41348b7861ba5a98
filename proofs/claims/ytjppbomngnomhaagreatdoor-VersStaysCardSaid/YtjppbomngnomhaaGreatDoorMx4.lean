/- Pack, Num, Enc, Back. -/
import Derived.Test.YtjppbomngnomhaaGreatDoorMx3
set_option linter.unnecessarySimpa false
set_option linter.unusedSimpArgs false
set_option linter.unusedVariables false
set_option maxRecDepth 100000
set_option maxHeartbeats 32000000
namespace Go.Proofs.YtjppbomngnomhaaGreatDoor
open Go.RowKit Pl
theorem npack_bad (s : Bs) (leaf : Bool) (hf : fit s = false) (hs : s.length ≤ 35184372088832) (w : World) :
  Calls Tryz.prog 113 #[.string ⟨List.toArray s⟩, .bool leaf] w fun e w' => e = .returned (.tuple #[.string ⟨List.toArray []⟩, .int .i64 3]) ∧ Below w.heap.size w w' := by
 go_enter Tryz.func113, Tryz.ntmps113
 go_wp2_with fail
 refine (nfit_any s (by omega) _).mono ?_
 rintro e w1 ⟨rfl, rfl⟩
 rw [hf]
 go_wp2_with fail
 go_ret2
 exact ⟨rfl, Below.refl _ _⟩
theorem npack_odd (s : Bs) (leaf : Bool) (hf : fit s = true) (ho : s.length % 2 = 1) (hs : s.length ≤ 35184372088832) (w : World) :
  Calls Tryz.prog 113 #[.string ⟨List.toArray s⟩, .bool leaf] w fun e w' => e = .returned (.tuple #[.string ⟨List.toArray (UInt8.ofNat ((if leaf then 32 else 0) + 16 + (s.headD 0).toNat) :: joined s.tail)⟩, .int .i64 0]) ∧ Below w.heap.size w w' := by
 obtain ⟨c, r, rfl⟩ : ∃ c r, s = c :: r := by
  cases s with
  | nil => simp at ho
  | cons c r => exact ⟨c, r, rfl⟩
 have hc := fit_at _ hf 0 (by simp)
 have hc15 : c.toNat ≤ 15 := hc
 have hfr : fit r = true := by
  have := List.all_eq_true.1 hf
  exact List.all_eq_true.2 (fun x hx => this x (by simp [hx]))
 have hl := joined_len r
 have hlr : r.length ≤ 35184372088832 := by simp at hs; omega
 have hcat : ¬ 9223372036854775807 < 1 + (joined r).length := by omega
 have HF := Lib.hid hf
 have HFR := Lib.hid hfr
 clear hf hfr hc hl
 have hodd : (((r.length : Int) + 1) % 2 == 1) = true := by simp at ho ⊢; omega
 have HO := Lib.hid ho
 clear ho
 have h16 : bits .or .u8 16 (c.toNat : Int) = 16 + (c.toNat : Int) := by
  have h := u8_or_hi 1 c.toNat (by omega) (by omega)
  simpa using h
 have h32 : bits .or .u8 32 (16 + (c.toNat : Int)) = 48 + (c.toNat : Int) := by
  have h := u8_or_nat 32 (16 + c.toNat) (by omega) (by omega)
  have h2 : 32 ||| (16 + c.toNat) = 48 + c.toNat := by
   rw [show (32 : Nat) = 2 ^ 5 * 1 from rfl, ← Nat.two_pow_add_eq_or_of_lt (by omega)]
   omega
  rw [h2] at h
  simpa using h
 have h00 : bits .or .u8 0 (16 + (c.toNat : Int)) = 16 + (c.toNat : Int) := by
  have h := u8_or_nat 0 (16 + c.toNat) (by omega) (by omega)
  simpa using h
 cases leaf
 ·have hn : (16 + (c.toNat : Int)).toNat = 16 + c.toNat := by omega
  go_enter Tryz.func113, Tryz.ntmps113
  go_wp2_with fail
  refine (nfit_any (c :: r) (by simp; omega) _).mono ?_
  rintro e w1 ⟨rfl, rfl⟩
  rw [HF.out]
  go_wp2_with fail
  go_region_with (go_at_call 52; refine (njoined_any r HFR.out hlr _).mono ?_; rintro e w' ⟨rfl, hbx⟩; obtain ⟨hcx, hfx⟩ := bcell hbx)
  all_goals go_wp2_with fail
  all_goals go_ret2
  all_goals exact ⟨rfl, by (repeat (first | exact Below.refl _ _ | assumption | apply Below.drew | apply below_drewN | apply Below.allocS | (refine Below.setCell ?_ (by simp <;> omega) _) | (refine Below.alloc ?_ (by simp <;> omega) _) | (refine Below.trans ?_ (Below.mono (by assumption) (by simp <;> omega)))))⟩
 ·have hn : (48 + (c.toNat : Int)).toNat = 48 + c.toNat := by omega
  go_enter Tryz.func113, Tryz.ntmps113
  go_wp2_with fail
  refine (nfit_any (c :: r) (by simp; omega) _).mono ?_
  rintro e w1 ⟨rfl, rfl⟩
  rw [HF.out]
  go_wp2_with fail
  go_region_with (go_at_call 52; refine (njoined_any r HFR.out hlr _).mono ?_; rintro e w' ⟨rfl, hbx⟩; obtain ⟨hcx, hfx⟩ := bcell hbx)
  all_goals go_wp2_with fail
  all_goals go_ret2
  all_goals exact ⟨rfl, by (repeat (first | exact Below.refl _ _ | assumption | apply Below.drew | apply below_drewN | apply Below.allocS | (refine Below.setCell ?_ (by simp <;> omega) _) | (refine Below.alloc ?_ (by simp <;> omega) _) | (refine Below.trans ?_ (Below.mono (by assumption) (by simp <;> omega)))))⟩
theorem npack_even (s : Bs) (leaf : Bool) (hf : fit s = true) (ho : s.length % 2 = 0) (hs : s.length ≤ 35184372088832) (w : World) :
  Calls Tryz.prog 113 #[.string ⟨List.toArray s⟩, .bool leaf] w fun e w' => e = .returned (.tuple #[.string ⟨List.toArray (UInt8.ofNat (if leaf then 32 else 0) :: joined s)⟩, .int .i64 0]) ∧ Below w.heap.size w w' := by
 have hl := joined_len s
 have hcat : ¬ 9223372036854775807 < 1 + (joined s).length := by omega
 have HF := Lib.hid hf
 clear hf hl
 have hodd : ((s.length : Int) % 2 == 1) = false := by simp; omega
 have HO := Lib.hid ho
 clear ho
 cases leaf
 all_goals
  go_enter Tryz.func113, Tryz.ntmps113
  go_wp2_with fail
  refine (nfit_any s (by omega) _).mono ?_
  rintro e w1 ⟨rfl, rfl⟩
  rw [HF.out]
  go_wp2_with fail
  go_region_with (go_at_call 52; refine (njoined_any s HF.out hs _).mono ?_; rintro e w' ⟨rfl, hbx⟩; obtain ⟨hcx, hfx⟩ := bcell hbx)
  all_goals go_wp2_with fail
  all_goals go_ret2
  all_goals exact ⟨rfl, by (repeat (first | exact Below.refl _ _ | assumption | apply Below.drew | apply below_drewN | apply Below.allocS | (refine Below.setCell ?_ (by simp <;> omega) _) | (refine Below.alloc ?_ (by simp <;> omega) _) | (refine Below.trans ?_ (Below.mono (by assumption) (by simp <;> omega)))))⟩
theorem npack_any (s : Bs) (leaf : Bool) (hs : s.length ≤ 35184372088832) (w : World) :
  Calls Tryz.prog 113 #[.string ⟨List.toArray s⟩, .bool leaf] w fun e w' => e = .returned (.tuple #[.string ⟨List.toArray ((pack s leaf).1)⟩, .int .i64 ((pack s leaf).2)]) ∧ Below w.heap.size w w' := by
 unfold pack
 cases hf : fit s with
 | false => rw [if_pos rfl]; exact npack_bad s leaf hf hs w
 | true =>
  rw [if_neg (by simp)]
  by_cases ho : s.length % 2 = 1
  ·rw [if_pos ho]; exact npack_odd s leaf hf ho hs w
  ·rw [if_neg ho]; exact npack_even s leaf hf (by omega) hs w
end Go.Proofs.YtjppbomngnomhaaGreatDoor
namespace Go.Proofs.YtjppbomngnomhaaGreatDoor
open Go.RowKit Pl
def numCells (k : Nat) (d : Bs) : Array Value := ((List.replicate k 0 ++ d).map fun c : UInt8 => Value.int .u8 (c.toNat : Int)).toArray
theorem numCells_get (k : Nat) (d : Bs) (hk : 0 < k) : (numCells k d)[k - 1]? = some (.int .u8 0) := by
 have : ((List.replicate k (0 : UInt8) ++ d).map fun c : UInt8 => Value.int .u8 (c.toNat : Int))[k - 1]? = some (.int .u8 0) := by
  rw [List.getElem?_map, List.getElem?_append_left (by simp; omega), List.getElem?_replicate, if_pos (by omega)]
  rfl
 simpa [numCells] using this
theorem numCells_set (k : Nat) (d : Bs) (hk : 0 < k) (c : UInt8) : (numCells k d).setIfInBounds (k - 1) (.int .u8 (c.toNat : Int)) = numCells (k - 1) (c :: d) := by
 obtain ⟨j, rfl⟩ : ∃ j, k = j + 1 := ⟨k - 1, by omega⟩
 unfold numCells
 apply Array.ext'
 simp only [Array.toList_setIfInBounds, Nat.add_sub_cancel]
 rw [List.replicate_succ', List.append_assoc, List.map_append, List.map_append]
 rw [List.set_append_right _ _ (by simp)]
 simp
theorem numCells_tail (k : Nat) (d : Bs) (i : Nat) (hi : i < d.length) : (numCells k d)[k + i]? = some (.int .u8 ((d.getD i 0).toNat : Int)) := by
 have : ((List.replicate k (0 : UInt8) ++ d).map fun c : UInt8 => Value.int .u8 (c.toNat : Int))[k + i]? = some (.int .u8 ((d.getD i 0).toNat : Int)) := by
  rw [List.getElem?_map, List.getElem?_append_right (by simp)]
  simp [List.getD, List.getElem?_eq_getElem hi]
 simpa [numCells] using this
theorem cnum_any (n : Nat) (hn : n < 9223372036854775808) (w : World) :
  Calls Tryz.prog 134 #[.int .i64 n] w fun e w' => e = .returned (.string ⟨List.toArray (num n)⟩) ∧ Below w.heap.size w w' := by
 go_enter Tryz.func134, Tryz.ntmps134
 go_wp2_with fail
 go_loopw [0, 4] (fun s0 s4 wr => ∃ (k m : Nat) (d : Bs), k ≤ 8 ∧ d.length + k = 8 ∧ m < 256 ^ k ∧ m < 9223372036854775808 ∧ Hid (digs 8 n = digs k m ++ d) ∧ s0 = .int .i64 m ∧ s4 = .int .i64 k ∧ Blk wr w.heap.size (numCells k d) ∧ Below w.heap.size w wr)
  (fun _ s4 _ => (intOf s4).toNat)
 case atStart =>
  exact ⟨8, n, [], by omega, rfl, by omega, hn, Lib.hid (by simp), rfl, rfl, Blk.new _ _ _, (Below.refl _ _).alloc (Nat.le_refl _) _⟩
 case round =>
  obtain ⟨k, m, d, hk, hd, hm, hm2, HD, rfl, rfl, B, hb⟩ := hrel
  obtain ⟨b1, b2, b3⟩ := id B
  by_cases h0 : 0 < m
  ·have hk0 : 0 < k := by
    rcases Nat.eq_zero_or_pos k with h | h
    ·subst h; omega
    ·exact h
   have hget := numCells_get k d hk0
   go_wp2_with fail
   obtain ⟨j, rfl⟩ : ∃ j, k = j + 1 := ⟨k - 1, by omega⟩
   refine ⟨⟨j, m / 256, UInt8.ofNat (m % 256) :: d, by omega, by simp at hd ⊢; omega, by rw [Nat.pow_succ] at hm; omega, by omega, ?_, by go_num, by simp, ?_, hb.setCell (Nat.le_refl _) _⟩, by simp [intOf] <;> omega⟩
   ·refine Lib.hid ?_
    rw [HD.out, digs_step _ _ h0, List.append_assoc]; rfl
   ·have hB := B.set j (.int .u8 ((UInt8.ofNat (m % 256)).toNat : Int))
    have hc := numCells_set (j + 1) d (by omega) (UInt8.ofNat (m % 256))
    simp only [Nat.add_sub_cancel] at hc
    rw [hc] at hB
    have hv : ((UInt8.ofNat (m % 256)).toNat : Int) = (m : Int) % 256 := by simp
    rw [hv] at hB
    exact hB
  ·have hm0 : m = 0 := by omega
   subst hm0
   have hfin : num n = UInt8.ofNat d.length :: d := by
    unfold num
    rw [HD.out, digs_zero, List.nil_append]
   have HF := Lib.hid hfin
   clear hfin
   have hconv : ∀ W : World, (∀ o, W.cell? ⟨w.heap.size, o, none⟩ = (numCells k d)[o]?) → (convert 59 9 (.slice (some ⟨w.heap.size, k, none⟩) (8 - k) (8 - k))).run Tryz.prog W = .ok (.string ⟨List.toArray d⟩) W := fun W hW =>
    conv_str _ 5 _ Tryz.underlying59 Tryz.underlying5 Tryz.underlying9 _ _ _ _ d (by omega) (fun i hi => by rw [hW]; exact numCells_tail k d i (by omega))
   have hk8 : (k : Int) ≤ 8 := by omega
   have hcat : ¬ 9223372036854775807 < 1 + d.length := by omega
   have hu8 : UInt8.ofNat (8 - k) = UInt8.ofNat d.length := by congr 1; omega
   by_cases h8 : k = 8
   ·subst h8
    have hd0 : d = [] := List.length_eq_zero_iff.1 (by omega)
    subst hd0
    clear hconv
    go_wp2_with fail
    go_region
    all_goals go_wp2_with fail
    all_goals go_ret
    all_goals exact ⟨by rw [HF.out]; rfl, by (repeat (first | exact Below.refl _ _ | assumption | apply Below.drew | apply below_drewN | apply Below.allocS | (refine Below.setCell ?_ (by simp <;> omega) _) | (refine Below.alloc ?_ (by simp <;> omega) _) | (refine Below.trans ?_ (Below.mono (by assumption) (by simp <;> omega)))))⟩
   ·have h8n : ¬ 8 = k := by omega
    go_wp2_with fail
    go_region
    all_goals go_wp2_with fail
    all_goals go_ret
    all_goals exact ⟨by rw [HF.out]; rfl, by (repeat (first | exact Below.refl _ _ | assumption | apply Below.drew | apply below_drewN | apply Below.allocS | (refine Below.setCell ?_ (by simp <;> omega) _) | (refine Below.alloc ?_ (by simp <;> omega) _) | (refine Below.trans ?_ (Below.mono (by assumption) (by simp <;> omega)))))⟩
theorem num_len (n : Nat) : (num n).length ≤ 9 := by
 have : ∀ f m, (digs f m).length ≤ f := by
  intro f
  induction f with
  | zero => intro m; simp [digs]
  | succ f ih =>
   intro m
   unfold digs
   split
   ·simp
   ·have := ih (m / 256); simp; omega
 have := this 8 n
 simp [num]; omega
theorem ctext_any (s : Bs) (hs : s.length < 9223372036854775000) (w : World) :
  Calls Tryz.prog 112 #[.string ⟨List.toArray s⟩] w fun e w' => e = .returned (.string ⟨List.toArray (text s)⟩) ∧ Below w.heap.size w w' := by
 have hl := num_len s.length
 have hcat : ¬ 9223372036854775807 < (num s.length).length + s.length := by omega
 go_enter Tryz.func112, Tryz.ntmps112
 go_wp2_with fail
 refine (cnum_any s.length (by omega) _).mono ?_
 rintro e w1 ⟨rfl, hb⟩
 go_wp2_with fail
 go_ret
 exact ⟨rfl, hb⟩
end Go.Proofs.YtjppbomngnomhaaGreatDoor
namespace Go.Proofs.YtjppbomngnomhaaGreatDoor
open Go.RowKit Pl
theorem enc_bad (kind : Int) (path val : Bs) (kid : Nat → Bs) (hp : path.length ≤ 9223372036854775807) (hc : chk kind path val kid = false) (w : World) :
  Calls Tryz.prog 91 #[.agg (nd kind path val kid).toArray] w fun e w' => e = .returned (.tuple #[.string ⟨List.toArray []⟩, .int .i64 80]) ∧ Below w.heap.size w w' := by
 have hB0 := Blk.new w (nd kind path val kid).toArray 76
 go_enter Tryz.func91, Tryz.ntmps91
 go_wp2_with (refine wpList_node rfl (.tmp 1) rfl rfl hB0 ?_)
 refine (check_any kind path val kid hp _).mono ?_
 rintro e w1 ⟨rfl, hb⟩
 rw [hc]
 go_wp2_with (simp [chkI])
 all_goals (go_ret2; exact ⟨rfl, (Below.allocS (Below.refl _ _) _).trans (hb.mono (by simp))⟩)
theorem enc_leaf (path val : Bs) (kid : Nat → Bs) (hp : path.length ≤ 9223372036854775807) (hc : chk 1 path val kid = true) (w : World) :
  Calls Tryz.prog 91 #[.agg (nd 1 path val kid).toArray] w fun e w' => e = .returned (.tuple #[.string ⟨List.toArray (1 :: (text (pack path true).1 ++ text val))⟩, .int .i64 0]) ∧ Below w.heap.size w w' := by
 have hpl : path.length ≤ 16 := by
  simp [chk, pathOk] at hc; omega
 have hvl : val.length ≤ 32 := by
  simp [chk, pathOk] at hc; omega
 have h1 := text_len val
 have h2 := text_len (pack path true).1
 have h3 := pack_len path true
 have hB0 := Blk.new w (nd 1 path val kid).toArray 76
 go_enter Tryz.func91, Tryz.ntmps91
 go_wp2_with (refine wpList_node rfl (.tmp 1) rfl rfl hB0 ?_)
 refine (check_any 1 path val kid hp _).mono ?_
 rintro e w1 ⟨rfl, hb⟩
 rw [hc, show chkI true = 0 from rfl]
 have hB : Blk w1 w.heap.size (nd 1 path val kid).toArray := hB0.keep hb
 have hb0 : Below w.heap.size w w1 := (Below.allocS (Below.refl _ _) _).trans (hb.mono (by simp))
 clear hb hB0
 obtain ⟨b1, b2, b3⟩ := id hB
 clear hc
 go_wp2_with fail
 refine (npack_any path true (by omega) _).mono ?_
 rintro e w2 ⟨rfl, hb2⟩
 have hb3 : Below w.heap.size w w2 := (Below.allocS hb0 _).trans (hb2.mono (by have := hb0.size; simp; omega))
 have hB2 : Blk w2 w.heap.size (nd 1 path val kid).toArray := (hB.alloc _).keep hb2
 clear hb2 hB b1 b2 b3
 obtain ⟨b1, b2, b3⟩ := id hB2
 go_wp2_with fail
 refine (ctext_any (pack path true).1 (by omega) _).mono ?_
 rintro e w3 ⟨rfl, hb4⟩
 have hb5 : Below w.heap.size w w3 := hb3.trans (hb4.mono hb3.size)
 have hB3 : Blk w3 w.heap.size (nd 1 path val kid).toArray := hB2.keep hb4
 clear hb4 hB2 b1 b2 b3
 obtain ⟨b1, b2, b3⟩ := id hB3
 have hcat : ¬ 9223372036854775807 < 1 + (text (pack path true).1).length := by omega
 go_wp2_with fail
 refine (ctext_any val (by omega) _).mono ?_
 rintro e w4 ⟨rfl, hb6⟩
 have hcat2 : ¬ 9223372036854775807 < (text (pack path true).1).length + 1 + (text val).length := by omega
 go_wp2_with fail
 all_goals (go_ret2; exact ⟨by simp, hb5.trans (hb6.mono hb5.size)⟩)
theorem enc_ext (path val : Bs) (kid : Nat → Bs) (hp : path.length ≤ 9223372036854775807) (hc : chk 2 path val kid = true) (w : World) :
  Calls Tryz.prog 91 #[.agg (nd 2 path val kid).toArray] w fun e w' => e = .returned (.tuple #[.string ⟨List.toArray (2 :: (text (pack path false).1 ++ kid 0))⟩, .int .i64 0]) ∧ Below w.heap.size w w' := by
 have hpl : path.length ≤ 16 := by
  simp [chk, pathOk] at hc; omega
 have hkl : (kid 0).length ≤ 32 := by
  simp [chk, all32] at hc; omega
 have h2 := text_len (pack path false).1
 have h3 := pack_len path false
 have hB0 := Blk.new w (nd 2 path val kid).toArray 76
 go_enter Tryz.func91, Tryz.ntmps91
 go_wp2_with (refine wpList_node rfl (.tmp 1) rfl rfl hB0 ?_)
 refine (check_any 2 path val kid hp _).mono ?_
 rintro e w1 ⟨rfl, hb⟩
 rw [hc, show chkI true = 0 from rfl]
 have hB : Blk w1 w.heap.size (nd 2 path val kid).toArray := hB0.keep hb
 have hb0 : Below w.heap.size w w1 := (Below.allocS (Below.refl _ _) _).trans (hb.mono (by simp))
 clear hb hB0
 obtain ⟨b1, b2, b3⟩ := id hB
 clear hc
 go_wp2_with fail
 refine (npack_any path false (by omega) _).mono ?_
 rintro e w2 ⟨rfl, hb2⟩
 have hb3 : Below w.heap.size w w2 := (Below.allocS hb0 _).trans (hb2.mono (by have := hb0.size; simp; omega))
 have hB2 : Blk w2 w.heap.size (nd 2 path val kid).toArray := (hB.alloc _).keep hb2
 clear hb2 hB b1 b2 b3
 obtain ⟨b1, b2, b3⟩ := id hB2
 go_wp2_with fail
 refine (ctext_any (pack path false).1 (by omega) _).mono ?_
 rintro e w3 ⟨rfl, hb4⟩
 have hb5 : Below w.heap.size w w3 := hb3.trans (hb4.mono hb3.size)
 have hB3 : Blk w3 w.heap.size (nd 2 path val kid).toArray := hB2.keep hb4
 clear hb4 hB2 b1 b2 b3
 obtain ⟨b1, b2, b3⟩ := id hB3
 have hcat : ¬ 9223372036854775807 < 1 + (text (pack path false).1).length := by omega
 have hcat2 : ¬ 9223372036854775807 < (text (pack path false).1).length + 1 + (kid 0).length := by omega
 go_wp2_with fail
 all_goals (go_ret2; exact ⟨by simp, hb5⟩)
theorem wrap64_nat (a : Nat) (ha : a < 9223372036854775808) : wrap64 (a : Int) = a := by
 unfold wrap64
 omega
theorem flat_len (l : List Bs) (h : all32 l = true) : l.flatten.length = 32 * l.length := by
 induction l with
 | nil => rfl
 | cons a r ih =>
  simp [all32] at h ih ⊢
  rw [ih h.2, h.1]; omega
theorem enc_branch (path val : Bs) (kid : Nat → Bs) (hp : path.length ≤ 9223372036854775807) (hc : chk 3 path val kid = true) (w : World) :
  Calls Tryz.prog 91 #[.agg (nd 3 path val kid).toArray] w fun e w' => e = .returned (.tuple #[.string ⟨List.toArray ([3, UInt8.ofNat (hiK kid), UInt8.ofNat (loK kid)] ++ (kidsF kid).flatten ++ text val)⟩, .int .i64 0]) ∧ Below w.heap.size w w' := by
 have hvl : val.length ≤ 32 := by
  simp [chk] at hc; omega
 have ha : all32 (kidsF kid) = true := by
  simp [chk] at hc; exact hc.1.1.2
 have hne : 1 ≤ (kidsF kid).length := by
  simp [chk] at hc
  have := hc.1.2
  split at this <;> omega
 have h1 := text_len val
 have hkl := kidsTo_len kid 16
 have hkl' : (kidsF kid).length ≤ 16 := hkl
 have hB0 := Blk.new w (nd 3 path val kid).toArray 76
 go_enter Tryz.func91, Tryz.ntmps91
 go_wp2_with (refine wpList_node rfl (.tmp 1) rfl rfl hB0 ?_)
 refine (check_any 3 path val kid hp _).mono ?_
 rintro e w1 ⟨rfl, hb⟩
 rw [hc, show chkI true = 0 from rfl]
 have hB : Blk w1 w.heap.size (nd 3 path val kid).toArray := hB0.keep hb
 have hb0 : Below w.heap.size w w1 := (Below.allocS (Below.refl _ _) _).trans (hb.mono (by simp))
 clear hb hB0 hc
 obtain ⟨b1, b2, b3⟩ := id hB
 go_wp2_with (refine wpList_kidsArr rfl (.tmp 26) rfl rfl (hB.alloc _) ?_)
 clear b1 b2 b3
 have hB2 : Blk _ w.heap.size (nd 3 path val kid).toArray := hB.alloc (.cells #[.int .u8 3] 5)
 go_loop [6, 28] (fun s6 s28 => ∃ k : Nat, k ≤ 16 ∧ s28 = .int .i64 k ∧ s6 = .int .i64 ((numTo kid k * 2 ^ (16 - k) : Nat) : Int)) (fun _ s28 => 16 - (intOf s28).toNat)
 case atStart => exact ⟨0, by omega, rfl, by simp [numTo]⟩
 case round =>
  obtain ⟨k, hk, rfl, rfl⟩ := hrel
  by_cases hlt : k < 16
  ·have hki := kid_index kid k hlt
   have hlt' : (k : Int) < 16 := by omega
   have hle := numTo_le kid k hk
   by_cases he : kid k = []
   ·have HK := Lib.hid (numTo_same kid k hlt he)
    rw [he] at hki
    clear he
    go_wp2_with fail
    exact ⟨⟨k + 1, by omega, by go_num, by rw [HK.out]⟩, by simp [intOf]; omega⟩
   ·have HK := Lib.hid (numTo_shift kid k hlt he)
    have he1 : (kid k).isEmpty = false := by simpa using he
    clear he
    have hor : bits .or .i64 ((numTo kid k : Int) * 2 ^ (16 - k)) (wrap64 (2 ^ (15 - k))) = ((numTo kid (k + 1) * 2 ^ (16 - (k + 1)) : Nat) : Int) := by
     have hp2 : (2 : Nat) ^ (15 - k) < 65536 := Nat.lt_of_le_of_lt (Nat.pow_le_pow_right (by omega) (show 15 - k ≤ 15 by omega)) (by decide)
     have h := i64_or_nat (numTo kid k * 2 ^ (16 - k)) (2 ^ (15 - k)) (by omega) (by omega)
     rw [HK.out] at h
     rw [← h]
     have h2 : wrap64 (2 ^ (15 - k)) = ((2 ^ (15 - k) : Nat) : Int) := by
      have hz : (2 : Int) ^ (15 - k) = ((2 ^ (15 - k) : Nat) : Int) := by simp
      rw [hz]
      exact wrap64_nat _ (by omega)
     rw [h2]
     simp
    go_wp2_with fail
    exact ⟨⟨k + 1, by omega, by go_num, by rw [show 16 - (k + 1) = 15 - k from by omega]; simp⟩, by simp [intOf]; omega⟩
  ·have hke : k = 16 := by omega
   subst hke
   go_wp2_with (refine wpList_node rfl (.tmp 1) rfl rfl (hB2.alloc _) ?_)
   refine (kids_any _ path val kid _).mono ?_
   rintro e w2 ⟨va, vc, rfl, hS, hb⟩
   have hb3 : Below w.heap.size w w2 := (Below.allocS (Below.allocS hb0 _) _).trans (hb.mono (by have := hb0.size; simp; omega))
   have hB3 : Blk w2 w.heap.size (nd 3 path val kid).toArray := (hB2.alloc _).keep hb
   clear hb hB2 hB
   have hfl := flat_len _ ha
   rcases hS.cells with ⟨hx, hx2⟩ | ⟨g, cap, hx, hgb, hlt, hn, hm, hcl, hf⟩
   ·rw [hx2] at hne; cases hne
   obtain ⟨rfl, rfl⟩ : va = some ⟨g, 0, none⟩ ∧ vc = cap := by
    injection hx with h1 h2 h3
    exact ⟨h1, h3⟩
   have hw2 : w.heap.size < w2.heap.size := hB3.lt
   have HH : Hid ([3, UInt8.ofNat (numTo kid 16 / 256 % 256), UInt8.ofNat (numTo kid 16 % 256)] = [3, UInt8.ofNat (hiK kid), UInt8.ofNat (loK kid)]) := Lib.hid (by
    have h1 := numTo_16 kid
    have h2 := loK_lt kid
    have h3 := hiK_lt kid
    rw [show numTo kid 16 / 256 % 256 = hiK kid from by omega, show numTo kid 16 % 256 = loK kid from rfl])
   rw [HH.out]
   generalize hk : kidsF kid = ks at *
   have hfk : ∀ k, (ks.take k).flatten.length ≤ 512 := fun k => by
    rw [flat_len _ (by unfold all32 at *; exact List.all_eq_true.2 (fun x hx => List.all_eq_true.1 ha x (List.mem_of_mem_take hx)))]
    have : (ks.take k).length ≤ ks.length := by rw [List.length_take]; exact Nat.min_le_right _ _
    omega
   have HF := Lib.hid hfk
   have HC := Lib.hid hcl
   have HA := Lib.hid ha
   have HK := Lib.hid hk
   clear hfk hcl ha hfl hk hS hx
   obtain ⟨b1, b2, b3⟩ := id hB3
   go_wp2_with fail
   go_loop [5, 52] (fun s5 s52 => ∃ k : Nat, k ≤ ks.length ∧ s52 = .int .i64 k ∧ s5 = .string ⟨List.toArray ([3, UInt8.ofNat (hiK kid), UInt8.ofNat (loK kid)] ++ (ks.take k).flatten)⟩) (fun _ s52 => ks.length - (intOf s52).toNat)
   case atStart => exact ⟨0, by omega, rfl, by simp⟩
   case round =>
    obtain ⟨k, hk, rfl, rfl⟩ := hrel
    have hfk := HF.out k
    by_cases hlt : k < ks.length
    ·have hck := HC.out k hlt
     have h32 : (ks.getD k []).length = 32 := by
      have := List.all_eq_true.1 HA.out (ks[k]) (List.getElem_mem hlt)
      simpa [List.getD, List.getElem?_eq_getElem hlt] using this
     have HT : Hid ((ks.take (k + 1)).flatten = (ks.take k).flatten ++ ks.getD k []) := Lib.hid (by
      rw [List.take_succ_eq_append_getElem hlt, List.flatten_append]
      simp [List.getD, List.getElem?_eq_getElem hlt])
     generalize ks.getD k [] = x at *
     generalize (ks.take k).flatten = y at *
     have hcat : ¬ 9223372036854775807 < y.length + 1 + 1 + 1 + x.length := by omega
     go_wp2_with fail
     exact ⟨⟨k + 1, by omega, by go_num, by rw [HT.out]; simp⟩, by simp [intOf]; omega⟩
    ·have hke : k = ks.length := by omega
     subst hke
     rw [List.take_length] at *
     have HFL : Hid (ks.flatten = (kidsF kid).flatten) := Lib.hid (by rw [HK.out])
     generalize ks.flatten = fl at *
     go_wp2_with fail
     refine (ctext_any val (by omega) _).mono ?_
     rintro e w4 ⟨rfl, hb6⟩
     have hcat : ¬ 9223372036854775807 < fl.length + 1 + 1 + 1 + (text val).length := by omega
     go_wp2_with fail
     all_goals (go_ret2; exact ⟨by rw [HFL.out]; simp, hb3.trans (hb6.mono hb3.size)⟩)
theorem encode_any (kind : Int) (path val : Bs) (kid : Nat → Bs) (hp : path.length ≤ 9223372036854775807) (w : World) :
  Calls Tryz.prog 91 #[.agg (nd kind path val kid).toArray] w fun e w' => e = .returned (.tuple #[.string ⟨List.toArray ((encR kind path val kid).1)⟩, .int .i64 ((encR kind path val kid).2)]) ∧ Below w.heap.size w w' := by
 cases hc : chk kind path val kid
 ·rw [show encR kind path val kid = ([], 80) from by simp [encR, hc]]
  exact enc_bad kind path val kid hp hc w
 ·rw [show encR kind path val kid = (enc kind path val kid, 0) from by simp [encR, hc]]
  by_cases k1 : kind = 1
  ·subst k1; exact enc_leaf path val kid hp hc w
  ·by_cases k2 : kind = 2
   ·subst k2; exact enc_ext path val kid hp hc w
   ·by_cases k3 : kind = 3
    ·subst k3; exact enc_branch path val kid hp hc w
    ·simp [chk, k1, k2, k3] at hc
end Go.Proofs.YtjppbomngnomhaaGreatDoor
namespace Go.Proofs.YtjppbomngnomhaaGreatDoor
namespace Pl
theorem digs_len : ∀ f n, (digs f n).length ≤ f
 | 0, n => by simp [digs]
 | f + 1, n => by
  unfold digs
  split
  ·simp
  ·have := digs_len f (n / 256); simp; omega
theorem be_digs : ∀ f n, n < 256 ^ f → be (digs f n) = n
 | 0, n, h => by simp at h; subst h; simp [digs, be]
 | f + 1, n, h => by
  by_cases h0 : n = 0
  ·subst h0; simp [digs, be]
  ·rw [digs_step f n (by omega), be_snoc, be_digs f (n / 256) (by rw [Nat.pow_succ] at h; omega)]
   simp; omega
theorem digs_head : ∀ f n, 0 < n → n < 256 ^ f → (digs f n).headD 0 ≠ 0
 | 0, n, h, h2 => by simp at h2; omega
 | f + 1, n, h, h2 => by
  rw [digs_step f n h]
  by_cases h0 : n / 256 = 0
  ·rw [h0, digs_zero]
   simp only [List.nil_append, List.headD_cons]
   intro e
   have := congrArg UInt8.toNat e
   simp at this
   omega
  ·have ih := digs_head f (n / 256) (by omega) (by rw [Nat.pow_succ] at h2; omega)
   cases hd : digs f (n / 256) with
   | nil => rw [hd] at ih; exact absurd rfl ih
   | cons a r => rw [hd] at ih; simpa using ih
theorem take_num (n : Nat) (h : n < 9223372036854775808) (r : Bs) : take (num n ++ r) = (n, r, 0) := by
 have h1 := digs_len 8 n
 have h2 := be_digs 8 n (by omega)
 have hk : (UInt8.ofNat (digs 8 n).length).toNat = (digs 8 n).length := by simp; omega
 show take (UInt8.ofNat (digs 8 n).length :: (digs 8 n ++ r)) = _
 unfold take
 simp only [hk]
 rw [if_neg (by omega), if_neg (by simp)]
 have ht : (digs 8 n ++ r).take (digs 8 n).length = digs 8 n := by simp
 have hd : (digs 8 n ++ r).drop (digs 8 n).length = r := by simp
 rw [ht, hd, h2, if_neg]
 rintro (⟨h3, h4⟩ | ⟨h3, h4⟩)
 ·have hn : 0 < n := by
   rcases Nat.eq_zero_or_pos n with h0 | h0
   ·subst h0; rw [digs_zero] at h3; simp at h3
   ·exact h0
  have := digs_head 8 n hn (by omega)
  cases hd : digs 8 n with
  | nil => rw [hd] at h3; simp at h3
  | cons a q => rw [hd] at this h4; simp at this h4; exact this h4
 ·cases hd : digs 8 n with
  | nil => rw [hd] at h3; simp at h3
  | cons a q =>
   rw [hd] at h2 h4 h3
   rw [be_cons] at h2
   simp at h3 h4
   rw [h3] at h2
   omega
theorem tx_text (t : Bs) (most : Int) (h : t.length < 9223372036854775808) (hm : (t.length : Int) ≤ most) (r : Bs) : tx (text t ++ r) most = (t, r, 0) := by
 unfold tx text
 rw [List.append_assoc, take_num _ h]
 simp only [ne_eq, not_true_eq_false, if_false]
 rw [if_neg (by omega), if_neg (by simp)]
 simp
theorem mText_text (t : Bs) (most : Int) (h : t.length < 9223372036854775808) (hm : (t.length : Int) ≤ most) (r : Bs) : mText (text t ++ r) 0 most = (t, r, 0) := by
 unfold mText
 rw [tx_text t most h hm]
 simp
theorem mBytes_app (t : Bs) (n : Nat) (h : t.length = n) (r : Bs) : mBytes (t ++ r) 0 n = (t, r, 0) := by
 subst h
 unfold mBytes
 rw [if_neg (by simp), if_neg (by omega), if_neg (by simp; omega)]
 simp
theorem ofP_joined (p : Bs) (hf : fit p = true) (he : p.length % 2 = 0) : ofP (joined p) = p := by
 induction p using joined.induct with
 | case1 a b r ih =>
  have ha := fit_at _ hf 0 (by simp)
  have hb := fit_at _ hf 1 (by simp)
  simp at ha hb
  have hr : fit r = true := by
   unfold fit at hf ⊢
   simp at hf ⊢
   exact hf.2.2
  have h1 : (UInt8.ofNat (a.toNat * 16 + b.toNat)).toNat = a.toNat * 16 + b.toNat := by simp; omega
  show ofP (UInt8.ofNat (a.toNat * 16 + b.toNat) :: joined r) = _
  have : ∀ x : UInt8, ofP (x :: joined r) = [UInt8.ofNat (x.toNat / 16), UInt8.ofNat (x.toNat % 16)] ++ ofP (joined r) := fun x => by simp [ofP]
  rw [this, h1, ih hr (by simp at he; omega), show (a.toNat * 16 + b.toNat) / 16 = a.toNat from by omega, show (a.toNat * 16 + b.toNat) % 16 = b.toNat from by omega]
  simp
 | case2 s h =>
  match s, h, he with
  | [], _, _ => simp [joined, ofP]
  | [x], _, he => simp at he
  | a :: b :: r, h, _ => exact absurd rfl (h a b r)
theorem unpack_pack (p : Bs) (leaf : Bool) (hf : fit p = true) : unpack (pack p leaf).1 = (p, leaf, 0) := by
 unfold pack
 rw [if_neg (by simp [hf])]
 by_cases ho : p.length % 2 = 1
 ·rw [if_pos ho]
  cases p with
  | nil => simp at ho
  | cons c r =>
   have hc := fit_at _ hf 0 (by simp)
   simp at hc
   have hr : fit r = true := by
    unfold fit at hf ⊢
    simp at hf ⊢
    exact hf.2
   have hj := ofP_joined r hr (by simp at ho; omega)
   simp only [List.headD_cons, List.tail_cons]
   cases leaf
   ·have h1 : (UInt8.ofNat (16 + c.toNat)).toNat = 16 + c.toNat := by simp; omega
    have h0 : (if (false : Bool) = true then 32 else 0) + 16 + c.toNat = 16 + c.toNat := by simp
    rw [h0]
    have h2 : (16 + c.toNat) / 16 = 1 := by omega
    have h3 : (16 + c.toNat) % 16 = c.toNat := by omega
    simp only [unpack, h1, h2, h3, hj]
    simp
   ·have h1 : (UInt8.ofNat (48 + c.toNat)).toNat = 48 + c.toNat := by simp; omega
    show unpack (UInt8.ofNat (48 + c.toNat) :: joined r) = _
    have h2 : (48 + c.toNat) / 16 = 3 := by omega
    have h3 : (48 + c.toNat) % 16 = c.toNat := by omega
    simp only [unpack, h1, h2, h3, hj]
    simp
 ·rw [if_neg ho]
  have hj := ofP_joined p hf (by omega)
  cases leaf
  ·simp [unpack, hj]
  ·simp [unpack, hj]
theorem joined_half (s : Bs) : (joined s).length ≤ s.length / 2 := by
 induction s using joined.induct with
 | case1 a b r ih => simp [joined] at ih ⊢; omega
 | case2 s h =>
  rw [joined.eq_def]
  split
  ·rename_i a b r; exact absurd rfl (h a b r)
  ·simp
theorem pack_half (p : Bs) (leaf : Bool) : (pack p leaf).1.length ≤ p.length / 2 + 1 := by
 unfold pack
 have h1 := joined_half p
 have h2 := joined_half p.tail
 have h3 : p.tail.length ≤ p.length := by simp
 split
 ·simp
 ·split
  ·simp at *; omega
  ·simp; omega
theorem bit_of (kid : Nat → Bs) (k : Nat) (hk : k < 16) : numTo kid 16 / 2 ^ (15 - k) % 2 = bitv kid k := by
 have h := numTo_add kid (k + 1) (15 - k)
 have h2 := numTo_lt (fun i => kid (k + 1 + i)) (15 - k)
 rw [show k + 1 + (15 - k) = 16 from by omega] at h
 rw [h, Nat.mul_comm, Nat.mul_add_div (Nat.two_pow_pos _), Nat.div_eq_of_lt h2, Nat.add_zero, numTo]
 have : bitv kid k ≤ 1 := by unfold bitv; split <;> omega
 omega
def kidsFrom (kid : Nat → Bs) : Nat → List Bs
 | 0 => []
 | n + 1 => (if kid (15 - n) = [] then [] else [kid (15 - n)]) ++ kidsFrom kid n
theorem kidsFrom_all (kid : Nat → Bs) : ∀ n, n ≤ 16 → kidsTo kid (16 - n) ++ kidsFrom kid n = kidsF kid
 | 0, _ => by simp [kidsFrom, kidsF]
 | n + 1, h => by
  rw [← kidsFrom_all kid n (by omega), kidsFrom, ← List.append_assoc, ← show 16 - (n + 1) = 15 - n from by omega, ← kidsTo_succ, show 16 - (n + 1) + 1 = 16 - n from by omega]
def cut (kid : Nat → Bs) (k : Nat) : Nat → Bs := fun i => if i < k then kid i else []
theorem rdKids_flat (kid : Nat → Bs) (ha : all32 (kidsF kid) = true) (r : Bs) : ∀ k, k ≤ 16 → rdKids (numTo kid 16) ((kidsF kid).flatten ++ r) 0 k = (cut kid k, (kidsFrom kid (16 - k)).flatten ++ r, 0)
 | 0, _ => by
  have h := kidsFrom_all kid 16 (by omega)
  simp [kidsTo] at h
  rw [rdKids, h]
  congr 1
 | k + 1, hk => by
  have ih := rdKids_flat kid ha r k (by omega)
  have hb := bit_of kid k (by omega)
  have hf : kidsFrom kid (16 - k) = (if kid k = [] then [] else [kid k]) ++ kidsFrom kid (16 - (k + 1)) := by
   rw [show 16 - k = (15 - k) + 1 from by omega, kidsFrom, show 15 - (15 - k) = k from by omega, show 16 - (k + 1) = 15 - k from by omega]
  rw [rdKids, ih, hb]
  by_cases he : kid k = []
  ·rw [bitv, if_pos he, if_neg (by omega), hf, if_pos he]
   congr 1
   funext i
   unfold cut
   by_cases h1 : i < k
   ·rw [if_pos h1, if_pos (by omega)]
   ·by_cases h2 : i = k
    ·subst h2; rw [if_neg h1, if_pos (by omega), he]
    ·rw [if_neg h1, if_neg (by omega)]
  ·have h32 : (kid k).length = 32 := by
    have h := kidsFrom_all kid (16 - k) (by omega)
    rw [hf, if_neg he] at h
    have hm : kid k ∈ kidsF kid := by rw [← h]; simp
    have := List.all_eq_true.1 ha (kid k) hm
    simpa using this
   rw [bitv, if_neg he, if_pos rfl, hf, if_neg he]
   simp only [List.flatten_append, List.flatten_cons, List.flatten_nil, List.append_nil, List.append_assoc]
   have hmb : mBytes (kid k ++ ((kidsFrom kid (16 - (k + 1))).flatten ++ r)) 0 32 = (kid k, (kidsFrom kid (16 - (k + 1))).flatten ++ r, 0) := mBytes_app (kid k) 32 h32 _
   rw [hmb]
   congr 1
   funext i
   simp only [cut, upd]
   by_cases h1 : i = k
   ·subst h1; rw [if_pos rfl, if_pos (by omega)]
   ·rw [if_neg h1]
    by_cases h2 : i < k
    ·rw [if_pos h2, if_pos (by omega)]
    ·rw [if_neg h2, if_neg (by omega)]
def rdN : Bs → (Nd × Bs × Int) × Bool
 | [] => ((ndZ, [], 20), false)
 | k :: r =>
  if k = 3 then match r with
   | a :: b :: r' => (rdB (a.toNat * 256 + b.toNat) r', true)
   | _ => ((ndZ, [], 20), false)
  else if k = 1 then (rdL r 0, decide ((unpack (mText r 0 16).1).2.2 = 0) && (unpack (mText r 0 16).1).2.1)
  else (rdE k.toNat r 0, decide ((unpack (mText r 0 16).1).2.2 = 0) && !(unpack (mText r 0 16).1).2.1)
theorem dec_rdN (s : Bs) : dec s = decEnd (rdN s).1 (rdN s).2 := by
 match s with
 | [] => rfl
 | k :: r =>
  unfold dec rdN
  by_cases h3 : k = 3
  ·simp only [if_pos h3]
   match r with
   | [] => rfl
   | [x] => rfl
   | a :: b :: r' => rfl
  ·simp only [if_neg h3]
   by_cases h1 : k = 1
   ·simp only [if_pos h1]
   ·simp only [if_neg h1]
theorem kidL_eq {a b : Nat → Bs} (h : kidL a = kidL b) (i : Nat) (hi : i < 16) : a i = b i := by
 have := congrArg (fun l => l[i]?) h
 simpa [kidL, hi] using this
theorem cut_none {kid : Nat → Bs} (h : noKids kid = true) : cut kid 16 = noK := by
 funext i
 unfold cut
 by_cases hi : i < 16
 ·rw [if_pos hi]
  have h1 : kidL kid = kidL noK := by
   simp only [noKids, sameL, decide_eq_true_eq] at h
   rw [h]; rfl
  exact kidL_eq h1 i hi
 ·rw [if_neg hi]; rfl
theorem cut_one {kid : Nat → Bs} (h : oneKidX kid (kid 0) = true) : cut kid 16 = upd noK 0 (kid 0) := by
 have h1 : kidL kid = kidL (upd noK 0 (kid 0)) := by
  simp only [oneKidX, sameL, decide_eq_true_eq] at h
  rw [h]; rfl
 funext i
 unfold cut
 by_cases hi : i < 16
 ·rw [if_pos hi]; exact kidL_eq h1 i hi
 ·rw [if_neg hi]; unfold upd; rw [if_neg (by omega)]; rfl
theorem rdN_enc (kind : Int) (path val : Bs) (kid : Nat → Bs) (hc : chk kind path val kid = true) (more : Bs) :
  rdN (enc kind path val kid ++ more) = ((⟨kind, path, val, cut kid 16⟩, more, 0), true) := by
 unfold chk at hc
 by_cases k1 : kind = 1
 ·subst k1
  simp [pathOk] at hc
  obtain ⟨⟨⟨hk, ⟨hf, hp⟩⟩, hv⟩, hv2⟩ := hc
  have hu := unpack_pack path true hf
  have hpl : (pack path true).1.length ≤ 16 := by
   have := pack_half path true
   omega
  have e1 : mText (text (pack path true).1 ++ (text val ++ more)) 0 16 = ((pack path true).1, text val ++ more, 0) := mText_text _ _ (by omega) (by omega) _
  have e2 : mText (text val ++ more) 0 32 = (val, more, 0) := mText_text _ _ (by omega) (by omega) _
  rw [show enc 1 path val kid ++ more = 1 :: (text (pack path true).1 ++ (text val ++ more)) from by simp [enc]]
  simp only [rdN, rdL, e1, e2, hu, cut_none hk]
  simp
 ·by_cases k2 : kind = 2
  ·subst k2
   simp [pathOk, all32] at hc
   obtain ⟨⟨⟨hk, h32⟩, ⟨⟨hf, hp1⟩, hp⟩⟩, hv⟩ := hc
   subst hv
   have hu := unpack_pack path false hf
   have hpl : (pack path false).1.length ≤ 16 := by
    have := pack_half path false
    omega
   have e1 : mText (text (pack path false).1 ++ (kid 0 ++ more)) 0 16 = ((pack path false).1, kid 0 ++ more, 0) := mText_text _ _ (by omega) (by omega) _
   have e2 : mBytes (kid 0 ++ more) 0 32 = (kid 0, more, 0) := mBytes_app (kid 0) 32 h32 _
   rw [show enc 2 path [] kid ++ more = 2 :: (text (pack path false).1 ++ (kid 0 ++ more)) from by simp [enc]]
   simp only [rdN, rdE, e1, e2, hu, cut_one hk]
   simp
  ·by_cases k3 : kind = 3
   ·subst k3
    simp at hc
    obtain ⟨⟨⟨hp, ha⟩, hm⟩, hv⟩ := hc
    subst hp
    have h16 := numTo_16 kid
    have hh := hiK_lt kid
    have hl := loK_lt kid
    have h1 : (UInt8.ofNat (hiK kid)).toNat * 256 + (UInt8.ofNat (loK kid)).toNat = numTo kid 16 := by simp; omega
    have e1 := rdKids_flat kid ha (text val ++ more) 16 (by omega)
    have e2 : mText (text val ++ more) 0 32 = (val, more, 0) := mText_text _ _ (by omega) (by omega) _
    rw [show enc 3 [] val kid ++ more = 3 :: UInt8.ofNat (hiK kid) :: UInt8.ofNat (loK kid) :: ((kidsF kid).flatten ++ (text val ++ more)) from by simp [enc]]
    simp only [rdN, if_true, rdB, h1, e1]
    simp [kidsFrom, e2]
   ·rw [if_neg k1, if_neg k2, if_neg k3] at hc
    exact absurd hc (by simp)
def sameN (k : Int) (p v : Bs) (kid : Nat → Bs) (k2 : Int) (p2 v2 : Bs) (kid2 : Nat → Bs) : Prop := k = k2 ∧ p = p2 ∧ v = v2 ∧ ∀ i, i < 16 → kid i = kid2 i
theorem cut_at {kid kid2 : Nat → Bs} (h : cut kid 16 = cut kid2 16) (i : Nat) (hi : i < 16) : kid i = kid2 i := by
 have := congrFun h i
 simpa [cut, hi] using this
theorem enc_begins {k k2 : Int} {p v p2 v2 : Bs} {kid kid2 : Nat → Bs} (h : chk k p v kid = true) (h2 : chk k2 p2 v2 kid2 = true) (more : Bs) (he : enc k2 p2 v2 kid2 = enc k p v kid ++ more) :
  more = [] ∧ sameN k p v kid k2 p2 v2 kid2 := by
 have e1 := rdN_enc k p v kid h more
 have e2 := rdN_enc k2 p2 v2 kid2 h2 []
 rw [List.append_nil, he, e1] at e2
 simp only [Prod.mk.injEq, Nd.mk.injEq, and_true] at e2
 obtain ⟨⟨a1, a2, a3, a4⟩, a5⟩ := e2
 exact ⟨a5, a1, a2, a3, cut_at a4⟩
theorem kidL_of {kid kid2 : Nat → Bs} (h : ∀ i, i < 16 → kid i = kid2 i) : kidL kid = kidL kid2 := by
 unfold kidL
 apply List.map_congr_left
 intro i hi
 exact h i (by simpa using hi)
theorem kidsTo_of {kid kid2 : Nat → Bs} (h : ∀ i, i < 16 → kid i = kid2 i) : ∀ n, n ≤ 16 → kidsTo kid n = kidsTo kid2 n
 | 0, _ => rfl
 | n + 1, hn => by rw [kidsTo_succ, kidsTo_succ, kidsTo_of h n (by omega), h n (by omega)]
theorem numTo_of {kid kid2 : Nat → Bs} (h : ∀ i, i < 16 → kid i = kid2 i) : ∀ n, n ≤ 16 → numTo kid n = numTo kid2 n
 | 0, _ => rfl
 | n + 1, hn => by rw [numTo, numTo, numTo_of h n (by omega), bitv, bitv, h n (by omega)]
theorem enc_of {k k2 : Int} {p v p2 v2 : Bs} {kid kid2 : Nat → Bs} (h : sameN k p v kid k2 p2 v2 kid2) : enc k p v kid = enc k2 p2 v2 kid2 := by
 obtain ⟨rfl, rfl, rfl, h⟩ := h
 have h1 : kidsF kid = kidsF kid2 := kidsTo_of h 16 (by omega)
 have h2 : hiK kid = hiK kid2 := numTo_of h 8 (by omega)
 have h3 : loK kid = loK kid2 := by unfold loK; rw [numTo_of h 16 (by omega)]
 have h4 := h 0 (by omega)
 unfold enc
 rw [h1, h2, h3, h4]
theorem chk_of {k : Int} {p v : Bs} {kid kid2 : Nat → Bs} (h : ∀ i, i < 16 → kid i = kid2 i) : chk k p v kid = chk k p v kid2 := by
 have h1 : kidsF kid = kidsF kid2 := kidsTo_of h 16 (by omega)
 have h2 := kidL_of h
 have h4 := h 0 (by omega)
 unfold chk noKids oneKidX
 rw [h1, h2, h4]
theorem unlike {k k2 : Int} {p v p2 v2 : Bs} {kid kid2 : Nat → Bs} (h : chk k p v kid = true) (h2 : chk k2 p2 v2 kid2 = true) :
  (enc k p v kid = enc k2 p2 v2 kid2 ↔ sameN k p v kid k2 p2 v2 kid2) ∧ (((enc k p v kid).length ≤ (enc k2 p2 v2 kid2).length ∧ (enc k2 p2 v2 kid2).take (enc k p v kid).length = enc k p v kid) ↔ sameN k p v kid k2 p2 v2 kid2) := by
 refine ⟨⟨fun he => (enc_begins h h2 [] (by simp [he])).2, enc_of⟩, ⟨fun ⟨hl, ht⟩ => ?_, fun hs => ?_⟩⟩
 ·refine (enc_begins h h2 ((enc k2 p2 v2 kid2).drop (enc k p v kid).length) ?_).2
  have := List.take_append_drop (enc k p v kid).length (enc k2 p2 v2 kid2)
  rw [ht] at this
  exact this.symm
 ·rw [enc_of hs]; simp
end Pl
end Go.Proofs.YtjppbomngnomhaaGreatDoor
