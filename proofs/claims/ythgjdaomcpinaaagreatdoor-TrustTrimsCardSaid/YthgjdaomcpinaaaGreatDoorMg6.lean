/- Links, Shelf6, Code. -/
import Derived.WalkMore
import Derived.ScopeJumps
import Derived.Test.YthgjdaomcpinaaaGreatDoorProg
import Derived.Shelf.SlicesE.IndexFunc
import Derived.Test.YthgjdaomcpinaaaGreatDoorRows
import Derived.Test.YthgjdaomcpinaaaGreatDoorMg1
import Derived.Test.YthgjdaomcpinaaaGreatDoorMg3
import Derived.Test.YthgjdaomcpinaaaGreatDoorMg5
set_option linter.unnecessarySimpa false

/- The walk of skip.Links: a loop by goto. -/
set_option linter.unusedSimpArgs false
set_option linter.unusedVariables false
namespace Go.Proofs.YthgjdaomcpinaaaGreatDoor
open Go.RowKit Pl

set_option maxRecDepth 100000 in
set_option maxHeartbeats 1000000 in
theorem links_any (h : Int) (w : World) :
    Calls Tryz.prog 106 #[.int .i64 (h)] w fun e w' => ∃ v, e = .returned v ∧ ZRow w' w.heap.size v (linksF h) ∧ Below w.heap.size w w' := by
  by_cases h1 : h < 1
  · have d1 : decide (h < 1) = true := by simpa using h1
    rw [linksF_out (.inl h1)]
    clear h1
    go_enter Tryz.func106, Tryz.ntmps106
    go_wp2_with fail
    try go_step3
    try go_wp2_with fail
    rw [Exit.noGoto_ret]
    go_ret
    exact ⟨_, rfl, ZRow.nil _ _, Below.refl _ _⟩
  · have d1 : decide (h < 1) = false := by simpa using h1
    by_cases h2 : 1048576 < h
    · have d2 : decide (1048576 < h) = true := by simpa using h2
      rw [linksF_out (.inr h2)]
      clear h1 h2
      go_enter Tryz.func106, Tryz.ntmps106
      go_wp2_with fail
      try go_step3
      try go_wp2_with fail
      rw [Exit.noGoto_ret]
      go_ret
      exact ⟨_, rfl, ZRow.nil _ _, Below.refl _ _⟩
    · have d2 : decide (1048576 < h) = false := by simpa using h2
      obtain ⟨n, rfl⟩ : ∃ n : Nat, h = n := ⟨h.toNat, by omega⟩
      rw [linksF_in (by omega) (by omega)]
      rw [show ((n : Int)).toNat = n from rfl]
      go_enter Tryz.func106, Tryz.ntmps106
      go_wp2_with fail
      refine wp_scope_jumps 0 (fun a' w' => ∃ (k : Nat) (v u5 u6 u7 u8 u9 u10 u11 u12 u13 u14 u15 u16 u17 u18 u19 u20 u21 u22 u23 : Value), a' = { tmps := #[.int .i64 (n), undef, .slice none 0 0, v, .int .i64 ((2 ^ (k + 1) : Nat)), u5, u6, u7, u8, u9, u10, u11, u12, u13, u14, u15, u16, u17, u18, u19, u20, u21, u22, u23], defers := [] } ∧ k ≤ 20 ∧ ZRow w' w.heap.size v (linksTo n k) ∧ Below w.heap.size w w') (fun a' _ => 2000000 - (intOf (a'.tmps.getD 4 undef)).toNat) rfl ?_ ?_
      · go_wp2_with fail
        go_step3
        have hr := ZRow.nil w w.heap.size
        by_cases hm : n % 2 = 0
        · have hn2 : 2 ≤ n := by omega
          have e1 : (n : Int).tmod 2 = 0 := by rw [Int.tmod_eq_emod_of_nonneg (by omega)]; omega
          have w1 : IntKind.i64.wrap ((n : Int) - 2) = (n : Int) - 2 := by rw [IntKind.wrap_i64]; omega
          have HL1 : Hid (linksTo n (0 + 1) = [(n : Int) - 2]) := Lib.hid (linksTo_yes (k := 0) hm)
          clear hm
          go_wp2_with (first
            | (at_builtin; refine wpList_appZ rfl (.tmp 15) (.tmp 19) rfl w.heap.size _ [] rfl (hr.alloc _) _ 0 1 1 [(n : Int) - 2] rfl rfl (zsrc1 _ _ _) (by simp) (by simp) ?_; rintro v2 w2' hS2 hb2)
            | fail)
          go_step3
          have hb3 : Below w.heap.size w w2' := (Below.allocS (Below.refl _ _) _).trans hb2
          exact ⟨rfl, 0 + 1, v2, _, _, _, _, _, _, _, _, _, _, _, _, _, _, _, _, _, _, _, rfl, by omega, by rw [HL1.out]; exact hS2, hb3⟩
        · have e1 : (n : Int).tmod 2 ≠ 0 := by rw [Int.tmod_eq_emod_of_nonneg (by omega)]; omega
          have HE : Hid (linksTo n 20 = []) := Lib.hid (links_stop (k := 0) hm 20)
          go_wp2_with fail
          simp only [Exit.jump]
          go_ret
          exact ⟨_, rfl, by rw [HE.out]; exact ZRow.nil _ _, Below.refl _ _⟩
      · rintro a' w' ⟨k, v, u5, u6, u7, u8, u9, u10, u11, u12, u13, u14, u15, u16, u17, u18, u19, u20, u21, u22, u23, rfl, hk, hr, hb⟩
        have hp0 := Nat.pow_pos (n := k + 1) (show 0 < 2 by omega)
        have hpw : (2 : Nat) ^ (k + 1 + 1) = 2 ^ (k + 1) * 2 := Nat.pow_succ _ _
        have hp21 : (2 : Nat) ^ (k + 1) ≤ 2 ^ 21 := Nat.pow_le_pow_right (by omega) (by omega)
        have HLY := Lib.hid (fun h => linksTo_yes (h := n) (k := k) h)
        have HST := Lib.hid (fun (h : n % 2 ^ (k + 1) ≠ 0) => links_stop h (20 - k))
        have HLL := Lib.hid (links_len n k)
        have HK : Hid (n % 2 ^ (k + 1) = 0 → k + 1 ≤ 20) := Lib.hid (fun h0 => by
          rcases Nat.lt_or_ge k 20 with h | h
          · exact h
          · have h3 : (2 : Nat) ^ 21 ≤ 2 ^ (k + 1) := Nat.pow_le_pow_right (by omega) (by omega)
            have h4 := Nat.le_of_dvd (by omega) (Nat.dvd_of_mod_eq_zero h0)
            omega)
        obtain ⟨va, vc, rfl⟩ := hr.form
        have HR := Lib.hid hr
        clear hr
        generalize hsp : (2 : Nat) ^ (k + 1) = s at *
        generalize hs2 : (2 : Nat) ^ (k + 1 + 1) = s2 at *
        have HS2 := Lib.hid hs2
        have HSP := Lib.hid hsp
        clear hs2 hsp
        have e1 : (n : Int).tmod (s : Int) = ((n % s : Nat) : Int) := by rw [Int.ofNat_tmod]
        have e0 : (s : Int) ≠ 0 := by omega
        by_cases hm : n % s = 0
        · have hsn : s ≤ n := Nat.le_of_dvd (by omega) (Nat.dvd_of_mod_eq_zero hm)
          rw [hm] at e1
          have HK2 := Lib.hid (HK.out hm)
          have HL2 := Lib.hid (HLY.out hm)
          have w1 : IntKind.i64.wrap ((n : Int) - (s : Int)) = (n : Int) - (s : Int) := by rw [IntKind.wrap_i64]; omega
          have w2 : IntKind.i64.wrap ((s : Int) * 2) = (s : Int) * 2 := by rw [IntKind.wrap_i64]; omega
          clear HK HLY HST hm
          generalize linksTo n k = L at *
          go_wp2_with (first
            | (at_builtin; refine wpList_appZ rfl (.tmp 15) (.tmp 19) rfl w.heap.size _ L rfl (HR.out.alloc _) _ 0 1 1 [(n : Int) - (s : Int)] rfl rfl (zsrc1 _ _ _) (by have := HLL.out; omega) (by have := hb.size; simp; omega) ?_; rintro v2 w2' hS2 hb2)
            | fail)
          go_step3
          have hb3 : Below w.heap.size w w2' := (Below.allocS hb _).trans hb2
          refine ⟨rfl, ⟨k + 1, v2, _, _, _, _, _, _, _, _, _, _, _, _, _, _, _, _, _, _, _, by rw [HS2.out, hpw]; rfl, HK2.out, by rw [HL2.out]; exact hS2, hb3⟩, ?_⟩
          simp [intOf]
          omega
        · have e2 : ((n % s : Nat) : Int) ≠ 0 := by omega
          have HE : Hid (linksTo n 20 = linksTo n k) := Lib.hid (by rw [← HST.out hm, show k + (20 - k) = 20 from by omega])
          go_wp2_with fail
          simp only [Exit.jump]
          go_ret
          exact ⟨_, rfl, by rw [HE.out]; exact HR.out, hb⟩
end Go.Proofs.YthgjdaomcpinaaaGreatDoor

/- The laws of the library that the sorts lean on, at this program. -/
set_option linter.unusedVariables false
namespace Go.Proofs.YthgjdaomcpinaaaGreatDoor
open Go.Shelf

def laysCont_ren : Go.Shelf.Ren := ⟨fun | 8 => 150 | 6 => 171 | n => n, fun | 22 => 22 | 23 => 9 | 25 => 123 | 4 => 4 | 3 => 3 | 0 => 0 | n => n, fun | n => n⟩
theorem laysCont : Go.Proofs.SlLaysH.n8 Tryz.prog laysCont_ren := {
  mixed := by kernel_rfl
  f6 := ⟨Tryz.f171.name, by decide, Tryz.func171.trans (congrArg some (by kernel_rfl))⟩
  f8 := ⟨Tryz.f150.name, by decide, Tryz.func150.trans (congrArg some (by kernel_rfl))⟩
  t0 := Tryz.underlying0
  a0 := Tryz.isAgg0
  z0 := Tryz.sizeOf0
  v0 := Tryz.zeroValue0
  t3 := Tryz.underlying3
  a3 := Tryz.isAgg3
  z3 := Tryz.sizeOf3
  v3 := Tryz.zeroValue3
  t4 := Tryz.underlying4
  a4 := Tryz.isAgg4
  z4 := Tryz.sizeOf4
  v4 := Tryz.zeroValue4
  t22 := Tryz.underlying22
  a22 := Tryz.isAgg22
  z22 := Tryz.sizeOf22
  v22 := Tryz.zeroValue22
  a23 := Tryz.isAgg9
  z23 := Tryz.sizeOf9
  t25 := Tryz.underlying123
  a25 := Tryz.isAgg123
  z25 := Tryz.sizeOf123
  v25 := Tryz.zeroValue123 }

end Go.Proofs.YthgjdaomcpinaaaGreatDoor

/- Walks of layer 2: the reader. -/
set_option linter.unusedSimpArgs false
set_option linter.unusedVariables false
namespace Go.Proofs.YthgjdaomcpinaaaGreatDoor
open Go.RowKit Pl

set_option maxHeartbeats 400000 in
theorem take_yes (l : Bs) (at_ n : Nat) (code : Int) (p : Nat) (w : World) (hl : l.length ≤ 9223372036854775807) (hn : at_ + n ≤ l.length)
    (B : Blk w p #[.string ⟨List.toArray (l)⟩, .int .i64 (at_), .int .i64 (code)]) :
    Calls Tryz.prog 146 #[.pointer (some ⟨p, 0, none⟩), .int .i64 (n)] w fun e w' => e = .returned (.tuple #[.string ⟨List.toArray ((l.drop at_).take n)⟩, .bool true]) ∧ Blk w' p #[.string ⟨List.toArray (l)⟩, .int .i64 ((at_ + n : Nat)), .int .i64 (code)] ∧ Mod [p] w w' := by
  obtain ⟨b1, b2, b3⟩ := id B
  go_enter Tryz.func146, Tryz.ntmps146
  go_wp2_with fail
  go_quiet (fail)
  go_wp2_with fail
  go_quiet (fail)
  go_wp2_with fail
  go_ret2
  refine ⟨ret_two (by simp) rfl, ?_, ?_⟩
  · exact (B.drewN _).set 1 _
  · exact ((Mod.refl _ _).drewN _).setCell (.inl (by simp)) _

theorem take_no (l : Bs) (at_ n : Nat) (code : Int) (p : Nat) (w : World) (hl : l.length ≤ 9223372036854775807) (ha : at_ ≤ l.length) (hn : l.length < at_ + n)
    (B : Blk w p #[.string ⟨List.toArray (l)⟩, .int .i64 (at_), .int .i64 (code)]) :
    Calls Tryz.prog 146 #[.pointer (some ⟨p, 0, none⟩), .int .i64 (n)] w fun e w' => e = .returned (.tuple #[.string ⟨List.toArray ([])⟩, .bool false]) ∧ Blk w' p #[.string ⟨List.toArray (l)⟩, .int .i64 (at_), .int .i64 (code)] ∧ Mod [p] w w' := by
  obtain ⟨b1, b2, b3⟩ := id B
  have hn' : (l.length : Int) - at_ < n := by omega
  go_enter Tryz.func146, Tryz.ntmps146
  go_wp2_with fail
  go_quiet (fail)
  go_wp2_with fail
  go_ret2
  exact ⟨rfl, B.drewN _, (Mod.refl _ _).drewN _⟩

theorem refused_yes (l : Bs) (at_ frm : Nat) (e : Int) (p : Nat) (w : World) (B : Blk w p #[.string ⟨List.toArray (l)⟩, .int .i64 (at_), .int .i64 (0)]) :
    Calls Tryz.prog 108 #[.pointer (some ⟨p, 0, none⟩), .int .i64 (frm), .int .i64 (e)] w fun x w' => x = .returned (.tuple #[]) ∧ Blk w' p #[.string ⟨List.toArray (l)⟩, .int .i64 (frm), .int .i64 (e)] ∧ Mod [p] w w' := by
  obtain ⟨b1, b2, b3⟩ := id B
  go_enter Tryz.func108, Tryz.ntmps108
  go_wp2_with fail
  go_end0
  exact ⟨rfl, (B.set 1 _).set 2 _, ((Mod.refl _ _).setCell (.inl (by simp)) _).setCell (.inl (by simp)) _⟩

theorem refused_no (l : Bs) (at_ frm : Nat) (c e : Int) (hc : c ≠ 0) (p : Nat) (w : World) (B : Blk w p #[.string ⟨List.toArray (l)⟩, .int .i64 (at_), .int .i64 (c)]) :
    Calls Tryz.prog 108 #[.pointer (some ⟨p, 0, none⟩), .int .i64 (frm), .int .i64 (e)] w fun x w' => x = .returned (.tuple #[]) ∧ w = w' := by
  obtain ⟨b1, b2, b3⟩ := id B
  have hc1 : (c == 0) = false := by simpa using hc
  have hc2 : (c != 0) = true := by simpa using hc
  go_enter Tryz.func108, Tryz.ntmps108
  go_wp2_with fail
  go_end0
  exact ⟨rfl, rfl⟩

theorem left_any (l : Bs) (at_ : Nat) (code : Int) (p : Nat) (w : World) (hl : l.length ≤ 9223372036854775807) (ha : at_ ≤ l.length) (B : Blk w p #[.string ⟨List.toArray (l)⟩, .int .i64 (at_), .int .i64 (code)]) :
    Calls Tryz.prog 111 #[.pointer (some ⟨p, 0, none⟩)] w fun e w' => e = .returned (.int .i64 ((l.length - at_ : Int))) ∧ ∃ n, w' = w.drewN n := by
  obtain ⟨b1, b2, b3⟩ := id B
  go_enter Tryz.func111, Tryz.ntmps111
  go_wp2_with fail
  go_quiet (fail)
  go_wp2_with fail
  go_ret
  exact ⟨rfl, _, rfl⟩

theorem readNew (l : Bs) (w : World) :
    Calls Tryz.prog 53 #[.string ⟨List.toArray (l)⟩] w fun e w' => e = .returned (.pointer (some ⟨w.heap.size, 0, none⟩)) ∧ w' = w.alloc (.cells #[.string ⟨List.toArray (l)⟩, .int .i64 (0), .int .i64 (0)] 152) := by
  go_enter Tryz.func53, Tryz.ntmps53
  go_wp2_with fail
  go_ret
  exact ⟨rfl, rfl⟩

theorem take_cons {s : Bs} {k : UInt8} {r : Bs} (h : s = k :: r) : Pl.take s = (if 8 < k.toNat then (0, [], 3)
    else if r.length < k.toNat then (0, [], 20)
    else if (0 < k.toNat ∧ r.headD 0 = 0) ∨ (k.toNat = 8 ∧ 127 < (r.headD 0).toNat) then (0, [], 3)
    else (be (r.take k.toNat), r.drop k.toNat, 0)) := by subst h; rfl

/-- What 'number' leaves: the reader's place is behind the number, if there is one. -/
def NumAt (p : Nat) (l : Bs) (at_ : Nat) (w' : World) : Prop :=
  ∃ a : Nat, a ≤ l.length ∧ at_ ≤ a ∧ Blk w' p #[.string ⟨List.toArray (l)⟩, .int .i64 (a), .int .i64 (0)] ∧ ((Pl.take (l.drop at_)).2.2 = 0 → l.drop a = (Pl.take (l.drop at_)).2.1)

theorem number_empty (l : Bs) (at_ : Nat) (p : Nat) (w : World) (hl : l.length ≤ 9223372036854775807) (ha : at_ = l.length) (B : Blk w p #[.string ⟨List.toArray (l)⟩, .int .i64 (at_), .int .i64 (0)]) :
    Calls Tryz.prog 110 #[.pointer (some ⟨p, 0, none⟩)] w fun e w' => e = .returned (.tuple #[.int .i64 (0), .int .i64 (20)]) ∧ Blk w' p #[.string ⟨List.toArray (l)⟩, .int .i64 (at_), .int .i64 (0)] ∧ Mod [p] w w' := by
  obtain ⟨b1, b2, b3⟩ := id B
  go_enter Tryz.func110, Tryz.ntmps110
  go_wp2_with fail
  refine (take_no l at_ 1 0 p _ hl (by omega) (by omega) B).mono ?_
  rintro e w1 ⟨rfl, B1, m1⟩
  clear b1 b2 b3
  go_wp2_with fail
  go_ret2
  exact ⟨rfl, B1, m1⟩

set_option maxRecDepth 100000 in
set_option maxHeartbeats 1000000 in
theorem number_some (l : Bs) (at_ : Nat) (k : UInt8) (r : Bs) (p : Nat) (w : World) (hl : l.length ≤ 9223372036854775807) (hs : l.drop at_ = k :: r) (B : Blk w p #[.string ⟨List.toArray (l)⟩, .int .i64 (at_), .int .i64 (0)]) :
    Calls Tryz.prog 110 #[.pointer (some ⟨p, 0, none⟩)] w fun e w' => e = .returned (.tuple #[.int .i64 ((Pl.take (l.drop at_)).1), .int .i64 ((Pl.take (l.drop at_)).2.2)]) ∧ NumAt p l at_ w' ∧ Mod [p] w w' := by
  have hlen : at_ + 1 + r.length = l.length := by
    have := congrArg List.length hs
    simp at this
    omega
  have htake : (l.drop at_).take 1 = [k] := by rw [hs]; rfl
  have HT := Lib.hid htake
  have HC := Lib.hid (take_cons hs)
  have HS := Lib.hid hs
  clear htake hs
  have hk := k.toNat_lt
  obtain ⟨b1, b2, b3⟩ := id B
  go_enter Tryz.func110, Tryz.ntmps110
  go_wp2_with fail
  refine (take_yes l at_ 1 0 p _ hl (by omega) B).mono ?_
  rintro e w1 ⟨rfl, B1, m1⟩
  rw [HT.out]
  clear b1 b2 b3
  by_cases h8 : 8 < k.toNat
  · have h8' : (8 : Int) < (k.toNat : Int) := by omega
    go_wp2_with fail
    go_ret2
    unfold NumAt
    rw [show Pl.take (l.drop at_) = (0, [], 3) from by rw [HC.out, if_pos h8]]
    exact ⟨rfl, ⟨at_ + 1, by omega, by omega, B1, fun h => by cases h⟩, m1⟩
  have h8' : ¬ (8 : Int) < (k.toNat : Int) := by omega
  by_cases hr : r.length < k.toNat
  · go_wp2_with fail
    refine (take_no l (at_ + 1) k.toNat 0 p _ hl (by omega) (by omega) B1).mono ?_
    rintro e w2 ⟨rfl, B2, m2⟩
    go_wp2_with fail
    go_ret2
    unfold NumAt
    rw [show Pl.take (l.drop at_) = (0, [], 20) from by rw [HC.out, if_neg h8, if_pos hr]]
    exact ⟨rfl, ⟨at_ + 1, by omega, by omega, B2, fun h => by cases h⟩, m1.trans m2⟩
  have hb : (l.drop (at_ + 1)).take k.toNat = r.take k.toNat := by
    rw [← List.drop_drop, HS.out]; rfl
  have HB := Lib.hid hb
  clear hb
  go_wp2_with fail
  refine (take_yes l (at_ + 1) k.toNat 0 p _ hl (by omega) B1).mono ?_
  rintro e w2 ⟨rfl, B2, m2⟩
  rw [HB.out]
  have hm := m1.trans m2
  clear m1 m2 B1 B
  have hdrop : l.drop (at_ + 1 + k.toNat) = r.drop k.toNat := by
    rw [← List.drop_drop, ← List.drop_drop, HS.out]; rfl
  have HD := Lib.hid hdrop
  clear hdrop
  have hbl : (r.take k.toNat).length = k.toNat := by simp; omega
  have hhd : 0 < k.toNat → (r.take k.toNat).headD 0 = r.headD 0 := by
    intro h
    cases r with
    | nil => simp
    | cons a r =>
      obtain ⟨n, hn⟩ : ∃ n, k.toNat = n + 1 := ⟨k.toNat - 1, by omega⟩
      rw [hn]; rfl
  have HH := Lib.hid hhd
  clear hhd
  generalize hbb : r.take k.toNat = b at *
  have HBB := Lib.hid hbb
  clear hbb
  generalize k.toNat = kn at *
  subst hbl
  by_cases h0 : b.length = 0
  · have hb0 : b = [] := List.length_eq_zero_iff.1 h0
    subst hb0
    go_wp2_with fail
    go_loop [7, 58] (fun s7 s58 => s7 = .int .i64 0 ∧ s58 = .int .i64 0) (fun _ _ => 0)
    case atStart => exact ⟨rfl, rfl⟩
    case round =>
      obtain ⟨rfl, rfl⟩ := hrel
      go_wp2_with fail
      go_ret2
      unfold NumAt
      rw [show Pl.take (l.drop at_) = (0, r, 0) from by rw [HC.out, if_neg h8, if_neg hr, if_neg (by simp)]; rfl]
      exact ⟨rfl, ⟨at_ + 1, by omega, by omega, B2, fun _ => HD.out⟩, hm⟩
  have HH' := HH.out (by omega)
  obtain ⟨c, b', hcb⟩ : ∃ c b', b = c :: b' := by
    cases b with
    | nil => exact absurd rfl h0
    | cons c b' => exact ⟨c, b', rfl⟩
  have hcr : r.headD 0 = c := by rw [← HH', hcb]; rfl
  have HCR := Lib.hid hcr
  clear hcr HH' HH
  by_cases hc0 : c = 0
  · subst hcb
    have hc1 : (c.toNat : Int) = 0 := by rw [hc0]; rfl
    have hbl : 0 < b'.length + 1 := by omega
    have hl0 : (0 : Int) < (b'.length : Int) + 1 := by omega
    have hcb : ((c.toNat : Int) == 0) = true := by simpa using hc1
    have HX := Lib.hid hc1
    clear hc1
    go_wp2_with fail
    go_ret2
    unfold NumAt
    rw [show Pl.take (l.drop at_) = (0, [], 3) from by rw [HC.out, if_neg h8, if_neg hr, if_pos (.inl ⟨by omega, by rw [HCR.out, hc0]⟩)]]
    exact ⟨rfl, ⟨at_ + 1 + (c :: b').length, by omega, by omega, B2, fun h => by cases h⟩, hm⟩
  have hcn : ¬ (c.toNat : Int) = 0 := by
    intro h
    apply hc0
    apply UInt8.toNat_inj.1
    simpa using h
  have hcb0 : ((c.toNat : Int) == 0) = false := by simpa using hcn
  have HX := Lib.hid hcn
  clear hcn
  have hb0 : (0 : Int) < (b.length : Int) := by omega
  have hlt0 : 0 < b.length := by omega
  have hget : b[0] = c := by subst hcb; rfl
  have hhd0 : b.headD 0 = c := by subst hcb; rfl
  have HHD := Lib.hid hhd0
  clear hhd0 hcb
  by_cases h88 : b.length = 8 ∧ 127 < c.toNat
  · have h8b : ((b.length : Int) == 8) = true := by simp; omega
    have hcg : (128 : Int) ≤ (c.toNat : Int) := by omega
    have hcd : decide ((128 : Int) ≤ (c.toNat : Int)) = true := by simpa using hcg
    have HL := Lib.hid h88.1
    go_wp2_with fail
    go_ret2
    unfold NumAt
    rw [show Pl.take (l.drop at_) = (0, [], 3) from by rw [HC.out, if_neg h8, if_neg hr, if_pos (.inr ⟨h88.1, by rw [HCR.out]; exact h88.2⟩)]]
    exact ⟨rfl, ⟨at_ + 1 + b.length, by omega, by omega, B2, fun h => by cases h⟩, hm⟩
  have hbound := be_bound b (by omega) (fun h => by
    rw [HHD.out]
    omega)
  have HBD := Lib.hid hbound
  clear hbound
  have hfin : Pl.take (l.drop at_) = (be b, r.drop b.length, 0) := by
    rw [HC.out, if_neg h8, if_neg hr, if_neg (by
      rintro (⟨_, h⟩ | ⟨h1, h2⟩)
      · exact hc0 (by rw [← HCR.out]; exact h)
      · rw [HCR.out] at h2; exact h88 ⟨h1, h2⟩)]
  have HF := Lib.hid hfin
  clear hfin
  have hcl := c.toNat_lt
  by_cases h8b : b.length = 8
  · have h8b' : ((b.length : Int) == 8) = true := by simp; omega
    have hcg : ¬ (128 : Int) ≤ (c.toNat : Int) := by omega
    have hcd : decide ((128 : Int) ≤ (c.toNat : Int)) = false := by simpa using hcg
    have H8 := Lib.hid h8b
    clear h8b h88
    go_wp2_with fail
    go_loop [7, 58] (fun s7 s58 => ∃ i : Nat, i ≤ b.length ∧ s58 = .int .i64 i ∧ s7 = .int .i64 (be (b.take i))) (fun _ s58 => b.length - (intOf s58).toNat)
    case atStart => exact ⟨0, by omega, rfl, by simp [be]⟩
    case round =>
      obtain ⟨i, hi, rfl, rfl⟩ := hrel
      by_cases hlt : i < b.length
      · have hbd := HBD.out i hlt
        have hsn : be (b.take (i + 1)) = be (b.take i) * 256 + b[i].toNat := by
          rw [List.take_succ_eq_append_getElem hlt, be_snoc]
        have HSN := Lib.hid hsn
        clear hsn
        have hbi := b[i].toNat_lt
        generalize be (b.take i) = m at *
        go_wp2_with fail
        exact ⟨⟨i + 1, by omega, by go_num, by rw [HSN.out, i64_or_byte _ _ hbd hbi]⟩, by simp [intOf]; omega⟩
      · go_wp2_with fail
        go_ret2
        unfold NumAt
        rw [HF.out]
        have hib : i = b.length := by omega
        subst hib
        exact ⟨ret_two (by simp) rfl, ⟨at_ + 1 + b.length, by omega, by omega, B2, fun _ => HD.out⟩, hm⟩
  · have h8b' : ((b.length : Int) == 8) = false := by simp; omega
    go_wp2_with fail
    go_loop [7, 58] (fun s7 s58 => ∃ i : Nat, i ≤ b.length ∧ s58 = .int .i64 i ∧ s7 = .int .i64 (be (b.take i))) (fun _ s58 => b.length - (intOf s58).toNat)
    case atStart => exact ⟨0, by omega, rfl, by simp [be]⟩
    case round =>
      obtain ⟨i, hi, rfl, rfl⟩ := hrel
      by_cases hlt : i < b.length
      · have hbd := HBD.out i hlt
        have hsn : be (b.take (i + 1)) = be (b.take i) * 256 + b[i].toNat := by
          rw [List.take_succ_eq_append_getElem hlt, be_snoc]
        have HSN := Lib.hid hsn
        clear hsn
        have hbi := b[i].toNat_lt
        generalize be (b.take i) = m at *
        go_wp2_with fail
        exact ⟨⟨i + 1, by omega, by go_num, by rw [HSN.out, i64_or_byte _ _ hbd hbi]⟩, by simp [intOf]; omega⟩
      · go_wp2_with fail
        go_ret2
        unfold NumAt
        rw [HF.out]
        have hib : i = b.length := by omega
        subst hib
        exact ⟨ret_two (by simp) rfl, ⟨at_ + 1 + b.length, by omega, by omega, B2, fun _ => HD.out⟩, hm⟩
end Go.Proofs.YthgjdaomcpinaaaGreatDoor
