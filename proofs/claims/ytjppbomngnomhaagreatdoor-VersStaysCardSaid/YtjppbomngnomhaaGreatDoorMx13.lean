/- Shelf4, Members, Code, Reader, List, BothP, Of, Sort, Orac, Store, ShaC, MWorks, Sign. -/
import Derived.Test.YtjppbomngnomhaaGreatDoorProg
import Derived.Shelf.SlIter.Nil
import Derived.Shelf.SortM.Plain
import Derived.Shelf.SortM.SortNone
import Derived.Lib.ConvBytes
import Derived.Deep.AppendSrc
import Derived.Lib.SlicesCompact
import Derived.Maps.Views
import Derived.Maps.OwnOps
import Derived.Maps.Own
import Derived.Shelf.Slices.In.SortNone
import Derived.Sort.OwnSorted
import Derived.Sort.EveryDepth
import Derived.Lib.OwnBridge
import Derived.DeepKeys4
import Derived.Maps.OwnSet
import Derived.Sort.KeysCollected
import Derived.Lib.OwnKind
import Derived.Test.YtjppbomngnomhaaGreatDoorMx8
set_option linter.unnecessarySimpa false
set_option linter.unusedSimpArgs false
set_option linter.unusedVariables false
set_option maxRecDepth 100000
set_option maxHeartbeats 32000000
namespace Go.Proofs.YtjppbomngnomhaaGreatDoor
open Go.Shelf
def keysB_ren : Go.Shelf.Ren := ⟨fun | 7 => 55 | 10 => 76 | n => n, fun | 23 => 84 | 26 => 9 | 3 => 59 | 28 => 100 | 0 => 0 | 27 => 99 | 33 => 72 | 4 => 4 | n => n, fun | n => n⟩
theorem keysB : Go.Proofs.SlLaysZ.n7 Tryz.prog keysB_ren := {
 mixed := by kernel_rfl
 f7 := ⟨Tryz.f55.name, by decide, Tryz.func55.trans (congrArg some (by kernel_rfl))⟩
 f10 := ⟨Tryz.f76.name, by decide, Tryz.func76.trans (congrArg some (by kernel_rfl))⟩
 t0 := Tryz.underlying0
 a0 := Tryz.isAgg0
 z0 := Tryz.sizeOf0
 v0 := Tryz.zeroValue0
 t4 := Tryz.underlying4
 a4 := Tryz.isAgg4
 z4 := Tryz.sizeOf4
 v4 := Tryz.zeroValue4
 t23 := Tryz.underlying84
 a23 := Tryz.isAgg84
 z23 := Tryz.sizeOf84
 v23 := Tryz.zeroValue84
 t26 := Tryz.underlying9
 a26 := Tryz.isAgg9
 z26 := Tryz.sizeOf9
 v26 := Tryz.zeroValue9
 t27 := Tryz.underlying99
 a27 := Tryz.isAgg99
 z27 := Tryz.sizeOf99
 v27 := Tryz.zeroValue99
 t28 := Tryz.underlying100
 a28 := Tryz.isAgg100
 z28 := Tryz.sizeOf100
 v28 := Tryz.zeroValue100
 t33 := Tryz.underlying72
 a33 := Tryz.isAgg72
 z33 := Tryz.sizeOf72
 v33 := Tryz.zeroValue72 }
def sortedS_ren : Go.Shelf.Ren := ⟨fun | 6 => 54 | 8 => 74 | 9 => 75 | 11 => 95 | 13 => 59 | 12 => 96 | 23 => 87 | 24 => 88 | 14 => 114 | 15 => 115 | 16 => 116 | 17 => 117 | 18 => 118 | 19 => 119 | 20 => 120 | 21 => 121 | 22 => 122 | 25 => 135 | 26 => 101 | 27 => 102 | 28 => 136 | 29 => 137 | 30 => 138 | 31 => 141 | n => n, fun | 26 => 9 | 28 => 100 | 24 => 39 | 0 => 0 | 3 => 3 | 37 => 106 | 48 => 117 | 50 => 135 | 4 => 4 | 40 => 126 | 39 => 125 | 45 => 131 | 5 => 5 | 9 => 9 | 51 => 148 | 55 => 152 | 57 => 174 | 58 => 175 | 33 => 72 | n => n, fun | n => n⟩
theorem sortedS : Go.Proofs.SlLaysZ.n6 Tryz.prog sortedS_ren := {
 mixed := by kernel_rfl
 f6 := ⟨Tryz.f54.name, by decide, Tryz.func54.trans (congrArg some (by kernel_rfl))⟩
 f8 := ⟨Tryz.f74.name, by decide, Tryz.func74.trans (congrArg some (by kernel_rfl))⟩
 f11 := ⟨Tryz.f95.name, by decide, Tryz.func95.trans (congrArg some (by kernel_rfl))⟩
 t0 := Tryz.underlying0
 a0 := Tryz.isAgg0
 z0 := Tryz.sizeOf0
 v0 := Tryz.zeroValue0
 t24 := Tryz.underlying39
 a24 := Tryz.isAgg39
 z24 := Tryz.sizeOf39
 v24 := Tryz.zeroValue39
 t26 := Tryz.underlying9
 a26 := Tryz.isAgg9
 z26 := Tryz.sizeOf9
 v26 := Tryz.zeroValue9
 t28 := Tryz.underlying100
 a28 := Tryz.isAgg100
 z28 := Tryz.sizeOf100
 v28 := Tryz.zeroValue100
 i26 := by kernel_rfl }
def sortM_ren : Go.Shelf.Ren := ⟨fun | 6 => 75 | 8 => 59 | 9 => 96 | 19 => 87 | 20 => 88 | 21 => 114 | 22 => 115 | 23 => 116 | 24 => 117 | 25 => 118 | 26 => 119 | 27 => 120 | 28 => 121 | 29 => 122 | 36 => 135 | 31 => 101 | 32 => 102 | 37 => 136 | 38 => 137 | 39 => 138 | 41 => 141 | n => n, fun | 27 => 39 | 29 => 9 | 3 => 3 | 32 => 106 | 26 => 39 | 0 => 0 | 44 => 117 | 46 => 135 | 4 => 4 | 36 => 126 | 35 => 125 | 41 => 131 | 5 => 5 | 9 => 9 | 53 => 148 | 57 => 152 | 63 => 174 | 64 => 175 | n => n, fun | n => n⟩
theorem sortM : Go.Proofs.SlLaysM.n6 Tryz.prog sortM_ren := {
 mixed := by kernel_rfl
 f6 := ⟨Tryz.f75.name, by decide, Tryz.func75.trans (congrArg some (by kernel_rfl))⟩
 f8 := Tryz.func59.trans (congrArg some (by kernel_rfl))
 f9 := ⟨Tryz.f96.name, by decide, Tryz.func96.trans (congrArg some (by kernel_rfl))⟩
 f19 := Tryz.func87.trans (congrArg some (by kernel_rfl))
 f20 := Tryz.func88.trans (congrArg some (by kernel_rfl))
 f21 := ⟨Tryz.f114.name, by decide, Tryz.func114.trans (congrArg some (by kernel_rfl))⟩
 f22 := ⟨Tryz.f115.name, by decide, Tryz.func115.trans (congrArg some (by kernel_rfl))⟩
 f23 := ⟨Tryz.f116.name, by decide, Tryz.func116.trans (congrArg some (by kernel_rfl))⟩
 f24 := ⟨Tryz.f117.name, by decide, Tryz.func117.trans (congrArg some (by kernel_rfl))⟩
 f25 := ⟨Tryz.f118.name, by decide, Tryz.func118.trans (congrArg some (by kernel_rfl))⟩
 f26 := ⟨Tryz.f119.name, by decide, Tryz.func119.trans (congrArg some (by kernel_rfl))⟩
 f27 := ⟨Tryz.f120.name, by decide, Tryz.func120.trans (congrArg some (by kernel_rfl))⟩
 f28 := ⟨Tryz.f121.name, by decide, Tryz.func121.trans (congrArg some (by kernel_rfl))⟩
 f29 := ⟨Tryz.f122.name, by decide, Tryz.func122.trans (congrArg some (by kernel_rfl))⟩
 f31 := Tryz.func101.trans (congrArg some (by kernel_rfl))
 f32 := Tryz.func102.trans (congrArg some (by kernel_rfl))
 f36 := ⟨Tryz.f135.name, by decide, Tryz.func135.trans (congrArg some (by kernel_rfl))⟩
 f37 := ⟨Tryz.f136.name, by decide, Tryz.func136.trans (congrArg some (by kernel_rfl))⟩
 f38 := ⟨Tryz.f137.name, by decide, Tryz.func137.trans (congrArg some (by kernel_rfl))⟩
 f39 := ⟨Tryz.f138.name, by decide, Tryz.func138.trans (congrArg some (by kernel_rfl))⟩
 f41 := ⟨Tryz.f141.name, by decide, Tryz.func141.trans (congrArg some (by kernel_rfl))⟩
 t0 := Tryz.underlying0
 a0 := Tryz.isAgg0
 z0 := Tryz.sizeOf0
 v0 := Tryz.zeroValue0
 t3 := Tryz.underlying3
 a3 := Tryz.isAgg3
 z3 := Tryz.sizeOf3
 v3 := Tryz.zeroValue3
 t4 := Tryz.underlying4
 a4 := Tryz.isAgg4
 z4 := Tryz.sizeOf4
 v4 := Tryz.zeroValue4
 t5 := Tryz.underlying5
 a5 := Tryz.isAgg5
 z5 := Tryz.sizeOf5
 v5 := Tryz.zeroValue5
 t9 := Tryz.underlying9
 a9 := Tryz.isAgg9
 z9 := Tryz.sizeOf9
 v9 := Tryz.zeroValue9
 t26 := Tryz.underlying39
 a26 := Tryz.isAgg39
 z26 := Tryz.sizeOf39
 v26 := Tryz.zeroValue39
 t27 := Tryz.underlying39
 a27 := Tryz.isAgg39
 z27 := Tryz.sizeOf39
 v27 := Tryz.zeroValue39
 t29 := Tryz.underlying9
 a29 := Tryz.isAgg9
 z29 := Tryz.sizeOf9
 v29 := Tryz.zeroValue9
 t32 := Tryz.underlying106
 a32 := Tryz.isAgg106
 z32 := Tryz.sizeOf106
 v32 := Tryz.zeroValue106
 t35 := Tryz.underlying125
 a35 := Tryz.isAgg125
 z35 := Tryz.sizeOf125
 v35 := Tryz.zeroValue125
 t36 := Tryz.underlying126
 a36 := Tryz.isAgg126
 z36 := Tryz.sizeOf126
 v36 := Tryz.zeroValue126
 t41 := Tryz.underlying131
 a41 := Tryz.isAgg131
 z41 := Tryz.sizeOf131
 v41 := Tryz.zeroValue131
 t44 := Tryz.underlying117
 a44 := Tryz.isAgg117
 z44 := Tryz.sizeOf117
 v44 := Tryz.zeroValue117
 t46 := Tryz.underlying135
 a46 := Tryz.isAgg135
 z46 := Tryz.sizeOf135
 v46 := Tryz.zeroValue135
 t53 := Tryz.underlying148
 a53 := Tryz.isAgg148
 z53 := Tryz.sizeOf148
 v53 := Tryz.zeroValue148
 t57 := Tryz.underlying152
 a57 := Tryz.isAgg152
 z57 := Tryz.sizeOf152
 v57 := Tryz.zeroValue152
 t63 := Tryz.underlying174
 a63 := Tryz.isAgg174
 z63 := Tryz.sizeOf174
 v63 := Tryz.zeroValue174
 t64 := Tryz.underlying175
 a64 := Tryz.isAgg175
 z64 := Tryz.sizeOf175
 v64 := Tryz.zeroValue175 }
end Go.Proofs.YtjppbomngnomhaaGreatDoor
namespace Go.Proofs.YtjppbomngnomhaaGreatDoor
open Go.RowKit Pl
def leS (a b : Bs) : Bool := Op.bytesLess a b || a == b
@[go_sem high] theorem leq_S (t : TypeId) (a b : Bs) : binOp .leq t (.string ⟨List.toArray a⟩) (.string ⟨List.toArray b⟩) = pure (.bool (leS a b)) := by
 rw [binOp_string_leq]
 unfold leS
 rw [Lib.toList_data, Lib.toList_data]
def MSrc (w : World) (g o : Nat) (l : List (Bs × Int)) : Prop := ∀ i, i < l.length → w.cell? ⟨g, o + i * 2, none⟩ = some (.string ⟨List.toArray ((l.getD i ([], 0)).1)⟩) ∧ w.cell? ⟨g, o + i * 2 + 1, none⟩ = some (.int .i64 ((l.getD i ([], 0)).2))
namespace Pl
theorem dropS (l : List Bs) (i : Nat) (hi : i < l.length) : l.drop i = l.getD i [] :: l.drop (i + 1) := by
 rw [List.drop_eq_getElem_cons hi, List.getD_eq_getElem?_getD, List.getElem?_eq_getElem hi]
 rfl
end Pl
end Go.Proofs.YtjppbomngnomhaaGreatDoor
namespace Go.Proofs.YtjppbomngnomhaaGreatDoor
open Go.RowKit Pl
theorem take_yes (l : Bs) (at_ n : Nat) (code : Int) (p : Nat) (w : World) (hl : l.length ≤ 9223372036854775807) (hn : at_ + n ≤ l.length)
  (B : Blk w p #[.string ⟨List.toArray l⟩, .int .i64 at_, .int .i64 code]) :
  Calls Tryz.prog 128 #[.pointer (some ⟨p, 0, none⟩), .int .i64 n] w fun e w' => e = .returned (.tuple #[.string ⟨List.toArray ((l.drop at_).take n)⟩, .bool true]) ∧ Blk w' p #[.string ⟨List.toArray l⟩, .int .i64 ((at_ + n : Nat)), .int .i64 code] ∧ Mod [p] w w' := by
 obtain ⟨b1, b2, b3⟩ := id B
 go_enter Tryz.func128, Tryz.ntmps128
 go_wp2_with fail
 go_quiet (fail)
 go_wp2_with fail
 go_quiet (fail)
 go_wp2_with fail
 go_ret2
 refine ⟨ret_two (by simp) rfl, ?_, ?_⟩
 ·exact (B.drewN _).set 1 _
 ·exact ((Mod.refl _ _).drewN _).setCell (.inl (by simp)) _
theorem take_no (l : Bs) (at_ n : Nat) (code : Int) (p : Nat) (w : World) (hl : l.length ≤ 9223372036854775807) (ha : at_ ≤ l.length) (hn : l.length < at_ + n)
  (B : Blk w p #[.string ⟨List.toArray l⟩, .int .i64 at_, .int .i64 code]) :
  Calls Tryz.prog 128 #[.pointer (some ⟨p, 0, none⟩), .int .i64 n] w fun e w' => e = .returned (.tuple #[.string ⟨List.toArray []⟩, .bool false]) ∧ Blk w' p #[.string ⟨List.toArray l⟩, .int .i64 at_, .int .i64 code] ∧ Mod [p] w w' := by
 obtain ⟨b1, b2, b3⟩ := id B
 have hn' : (l.length : Int) - at_ < n := by omega
 go_enter Tryz.func128, Tryz.ntmps128
 go_wp2_with fail
 go_quiet (fail)
 go_wp2_with fail
 go_ret2
 exact ⟨rfl, B.drewN _, (Mod.refl _ _).drewN _⟩
theorem refused_yes (l : Bs) (at_ frm : Nat) (e : Int) (p : Nat) (w : World) (B : Blk w p #[.string ⟨List.toArray l⟩, .int .i64 at_, .int .i64 0]) :
  Calls Tryz.prog 127 #[.pointer (some ⟨p, 0, none⟩), .int .i64 frm, .int .i64 e] w fun x w' => x = .returned (.tuple #[]) ∧ Blk w' p #[.string ⟨List.toArray l⟩, .int .i64 frm, .int .i64 e] ∧ Mod [p] w w' := by
 obtain ⟨b1, b2, b3⟩ := id B
 go_enter Tryz.func127, Tryz.ntmps127
 go_wp2_with fail
 go_end0
 exact ⟨rfl, (B.set 1 _).set 2 _, ((Mod.refl _ _).setCell (.inl (by simp)) _).setCell (.inl (by simp)) _⟩
theorem refused_no (l : Bs) (at_ frm : Nat) (c e : Int) (hc : c ≠ 0) (p : Nat) (w : World) (B : Blk w p #[.string ⟨List.toArray l⟩, .int .i64 at_, .int .i64 c]) :
  Calls Tryz.prog 127 #[.pointer (some ⟨p, 0, none⟩), .int .i64 frm, .int .i64 e] w fun x w' => x = .returned (.tuple #[]) ∧ w = w' := by
 obtain ⟨b1, b2, b3⟩ := id B
 have hc1 : (c == 0) = false := by simpa using hc
 have hc2 : (c != 0) = true := by simpa using hc
 go_enter Tryz.func127, Tryz.ntmps127
 go_wp2_with fail
 go_end0
 exact ⟨rfl, rfl⟩
theorem left_any (l : Bs) (at_ : Nat) (code : Int) (p : Nat) (w : World) (hl : l.length ≤ 9223372036854775807) (ha : at_ ≤ l.length) (B : Blk w p #[.string ⟨List.toArray l⟩, .int .i64 at_, .int .i64 code]) :
  Calls Tryz.prog 131 #[.pointer (some ⟨p, 0, none⟩)] w fun e w' => e = .returned (.int .i64 ((l.length - at_ : Int))) ∧ ∃ n, w' = w.drewN n := by
 obtain ⟨b1, b2, b3⟩ := id B
 go_enter Tryz.func131, Tryz.ntmps131
 go_wp2_with fail
 go_quiet (fail)
 go_wp2_with fail
 go_ret
 exact ⟨rfl, _, rfl⟩
theorem readNew (l : Bs) (w : World) :
  Calls Tryz.prog 106 #[.string ⟨List.toArray l⟩] w fun e w' => e = .returned (.pointer (some ⟨w.heap.size, 0, none⟩)) ∧ w' = w.alloc (.cells #[.string ⟨List.toArray l⟩, .int .i64 0, .int .i64 0] 178) := by
 go_enter Tryz.func106, Tryz.ntmps106
 go_wp2_with fail
 go_ret
 exact ⟨rfl, rfl⟩
theorem take_cons {s : Bs} {k : UInt8} {r : Bs} (h : s = k :: r) : Pl.take s = (if 8 < k.toNat then (0, [], 3)
  else if r.length < k.toNat then (0, [], 20)
  else if (0 < k.toNat ∧ r.headD 0 = 0) ∨ (k.toNat = 8 ∧ 127 < (r.headD 0).toNat) then (0, [], 3)
  else (be (r.take k.toNat), r.drop k.toNat, 0)) := by subst h; rfl
def NumAt (p : Nat) (l : Bs) (at_ : Nat) (w' : World) : Prop :=
 ∃ a : Nat, a ≤ l.length ∧ at_ ≤ a ∧ Blk w' p #[.string ⟨List.toArray l⟩, .int .i64 a, .int .i64 0] ∧ ((Pl.take (l.drop at_)).2.2 = 0 → l.drop a = (Pl.take (l.drop at_)).2.1)
theorem number_empty (l : Bs) (at_ : Nat) (p : Nat) (w : World) (hl : l.length ≤ 9223372036854775807) (ha : at_ = l.length) (B : Blk w p #[.string ⟨List.toArray l⟩, .int .i64 at_, .int .i64 0]) :
  Calls Tryz.prog 144 #[.pointer (some ⟨p, 0, none⟩)] w fun e w' => e = .returned (.tuple #[.int .i64 0, .int .i64 20]) ∧ Blk w' p #[.string ⟨List.toArray l⟩, .int .i64 at_, .int .i64 0] ∧ Mod [p] w w' := by
 obtain ⟨b1, b2, b3⟩ := id B
 go_enter Tryz.func144, Tryz.ntmps144
 go_wp2_with fail
 refine (take_no l at_ 1 0 p _ hl (by omega) (by omega) B).mono ?_
 rintro e w1 ⟨rfl, B1, m1⟩
 clear b1 b2 b3
 go_wp2_with fail
 go_ret2
 exact ⟨rfl, B1, m1⟩
theorem number_some (l : Bs) (at_ : Nat) (k : UInt8) (r : Bs) (p : Nat) (w : World) (hl : l.length ≤ 9223372036854775807) (hs : l.drop at_ = k :: r) (B : Blk w p #[.string ⟨List.toArray l⟩, .int .i64 at_, .int .i64 0]) :
  Calls Tryz.prog 144 #[.pointer (some ⟨p, 0, none⟩)] w fun e w' => e = .returned (.tuple #[.int .i64 ((Pl.take (l.drop at_)).1), .int .i64 ((Pl.take (l.drop at_)).2.2)]) ∧ NumAt p l at_ w' ∧ Mod [p] w w' := by
 have hlen : at_ + 1 + r.length = l.length := by
  have := congrArg List.length hs
  simp at this
  omega
 have htake : (l.drop at_).take 1 = [k] := by rw [hs]; rfl
 have HT := Lib.hid htake
 have HC := Lib.hid (take_cons hs)
 have HS := Lib.hid hs
 clear htake hs
 have hk := k.toNat_lt
 obtain ⟨b1, b2, b3⟩ := id B
 go_enter Tryz.func144, Tryz.ntmps144
 go_wp2_with fail
 refine (take_yes l at_ 1 0 p _ hl (by omega) B).mono ?_
 rintro e w1 ⟨rfl, B1, m1⟩
 rw [HT.out]
 clear b1 b2 b3
 by_cases h8 : 8 < k.toNat
 ·have h8' : (8 : Int) < (k.toNat : Int) := by omega
  go_wp2_with fail
  go_ret2
  unfold NumAt
  rw [show Pl.take (l.drop at_) = (0, [], 3) from by rw [HC.out, if_pos h8]]
  exact ⟨rfl, ⟨at_ + 1, by omega, by omega, B1, fun h => by cases h⟩, m1⟩
 have h8' : ¬ (8 : Int) < (k.toNat : Int) := by omega
 by_cases hr : r.length < k.toNat
 ·go_wp2_with fail
  refine (take_no l (at_ + 1) k.toNat 0 p _ hl (by omega) (by omega) B1).mono ?_
  rintro e w2 ⟨rfl, B2, m2⟩
  go_wp2_with fail
  go_ret2
  unfold NumAt
  rw [show Pl.take (l.drop at_) = (0, [], 20) from by rw [HC.out, if_neg h8, if_pos hr]]
  exact ⟨rfl, ⟨at_ + 1, by omega, by omega, B2, fun h => by cases h⟩, m1.trans m2⟩
 have hb : (l.drop (at_ + 1)).take k.toNat = r.take k.toNat := by
  rw [← List.drop_drop, HS.out]; rfl
 have HB := Lib.hid hb
 clear hb
 go_wp2_with fail
 refine (take_yes l (at_ + 1) k.toNat 0 p _ hl (by omega) B1).mono ?_
 rintro e w2 ⟨rfl, B2, m2⟩
 rw [HB.out]
 have hm := m1.trans m2
 clear m1 m2 B1 B
 have hdrop : l.drop (at_ + 1 + k.toNat) = r.drop k.toNat := by
  rw [← List.drop_drop, ← List.drop_drop, HS.out]; rfl
 have HD := Lib.hid hdrop
 clear hdrop
 have hbl : (r.take k.toNat).length = k.toNat := by simp; omega
 have hhd : 0 < k.toNat → (r.take k.toNat).headD 0 = r.headD 0 := by
  intro h
  cases r with
  | nil => simp
  | cons a r =>
   obtain ⟨n, hn⟩ : ∃ n, k.toNat = n + 1 := ⟨k.toNat - 1, by omega⟩
   rw [hn]; rfl
 have HH := Lib.hid hhd
 clear hhd
 generalize hbb : r.take k.toNat = b at *
 have HBB := Lib.hid hbb
 clear hbb
 generalize k.toNat = kn at *
 subst hbl
 by_cases h0 : b.length = 0
 ·have hb0 : b = [] := List.length_eq_zero_iff.1 h0
  subst hb0
  go_wp2_with fail
  go_loop [7, 58] (fun s7 s58 => s7 = .int .i64 0 ∧ s58 = .int .i64 0) (fun _ _ => 0)
  case atStart => exact ⟨rfl, rfl⟩
  case round =>
   obtain ⟨rfl, rfl⟩ := hrel
   go_wp2_with fail
   go_ret2
   unfold NumAt
   rw [show Pl.take (l.drop at_) = (0, r, 0) from by rw [HC.out, if_neg h8, if_neg hr, if_neg (by simp)]; rfl]
   exact ⟨rfl, ⟨at_ + 1, by omega, by omega, B2, fun _ => HD.out⟩, hm⟩
 have HH' := HH.out (by omega)
 obtain ⟨c, b', hcb⟩ : ∃ c b', b = c :: b' := by
  cases b with
  | nil => exact absurd rfl h0
  | cons c b' => exact ⟨c, b', rfl⟩
 have hcr : r.headD 0 = c := by rw [← HH', hcb]; rfl
 have HCR := Lib.hid hcr
 clear hcr HH' HH
 by_cases hc0 : c = 0
 ·subst hcb
  have hc1 : (c.toNat : Int) = 0 := by rw [hc0]; rfl
  have hbl : 0 < b'.length + 1 := by omega
  have hl0 : (0 : Int) < (b'.length : Int) + 1 := by omega
  have hcb : ((c.toNat : Int) == 0) = true := by simpa using hc1
  have HX := Lib.hid hc1
  clear hc1
  go_wp2_with fail
  go_ret2
  unfold NumAt
  rw [show Pl.take (l.drop at_) = (0, [], 3) from by rw [HC.out, if_neg h8, if_neg hr, if_pos (.inl ⟨by omega, by rw [HCR.out, hc0]⟩)]]
  exact ⟨rfl, ⟨at_ + 1 + (c :: b').length, by omega, by omega, B2, fun h => by cases h⟩, hm⟩
 have hcn : ¬ (c.toNat : Int) = 0 := by
  intro h
  apply hc0
  apply UInt8.toNat_inj.1
  simpa using h
 have hcb0 : ((c.toNat : Int) == 0) = false := by simpa using hcn
 have HX := Lib.hid hcn
 clear hcn
 have hb0 : (0 : Int) < (b.length : Int) := by omega
 have hlt0 : 0 < b.length := by omega
 have hget : b[0] = c := by subst hcb; rfl
 have hhd0 : b.headD 0 = c := by subst hcb; rfl
 have HHD := Lib.hid hhd0
 clear hhd0 hcb
 by_cases h88 : b.length = 8 ∧ 127 < c.toNat
 ·have h8b : ((b.length : Int) == 8) = true := by simp; omega
  have hcg : (128 : Int) ≤ (c.toNat : Int) := by omega
  have hcd : decide ((128 : Int) ≤ (c.toNat : Int)) = true := by simpa using hcg
  have HL := Lib.hid h88.1
  go_wp2_with fail
  go_ret2
  unfold NumAt
  rw [show Pl.take (l.drop at_) = (0, [], 3) from by rw [HC.out, if_neg h8, if_neg hr, if_pos (.inr ⟨h88.1, by rw [HCR.out]; exact h88.2⟩)]]
  exact ⟨rfl, ⟨at_ + 1 + b.length, by omega, by omega, B2, fun h => by cases h⟩, hm⟩
 have hbound := be_bound b (by omega) (fun h => by
  rw [HHD.out]
  omega)
 have HBD := Lib.hid hbound
 clear hbound
 have hfin : Pl.take (l.drop at_) = (be b, r.drop b.length, 0) := by
  rw [HC.out, if_neg h8, if_neg hr, if_neg (by
   rintro (⟨_, h⟩ | ⟨h1, h2⟩)
   ·exact hc0 (by rw [← HCR.out]; exact h)
   ·rw [HCR.out] at h2; exact h88 ⟨h1, h2⟩)]
 have HF := Lib.hid hfin
 clear hfin
 have hcl := c.toNat_lt
 by_cases h8b : b.length = 8
 ·have h8b' : ((b.length : Int) == 8) = true := by simp; omega
  have hcg : ¬ (128 : Int) ≤ (c.toNat : Int) := by omega
  have hcd : decide ((128 : Int) ≤ (c.toNat : Int)) = false := by simpa using hcg
  have H8 := Lib.hid h8b
  clear h8b h88
  go_wp2_with fail
  go_loop [7, 58] (fun s7 s58 => ∃ i : Nat, i ≤ b.length ∧ s58 = .int .i64 i ∧ s7 = .int .i64 (be (b.take i))) (fun _ s58 => b.length - (intOf s58).toNat)
  case atStart => exact ⟨0, by omega, rfl, by simp [be]⟩
  case round =>
   obtain ⟨i, hi, rfl, rfl⟩ := hrel
   by_cases hlt : i < b.length
   ·have hbd := HBD.out i hlt
    have hsn : be (b.take (i + 1)) = be (b.take i) * 256 + b[i].toNat := by
     rw [List.take_succ_eq_append_getElem hlt, be_snoc]
    have HSN := Lib.hid hsn
    clear hsn
    have hbi := b[i].toNat_lt
    generalize be (b.take i) = m at *
    go_wp2_with fail
    exact ⟨⟨i + 1, by omega, by go_num, by rw [HSN.out, i64_or_byte _ _ hbd hbi]⟩, by simp [intOf]; omega⟩
   ·go_wp2_with fail
    go_ret2
    unfold NumAt
    rw [HF.out]
    have hib : i = b.length := by omega
    subst hib
    exact ⟨ret_two (by simp) rfl, ⟨at_ + 1 + b.length, by omega, by omega, B2, fun _ => HD.out⟩, hm⟩
 ·have h8b' : ((b.length : Int) == 8) = false := by simp; omega
  go_wp2_with fail
  go_loop [7, 58] (fun s7 s58 => ∃ i : Nat, i ≤ b.length ∧ s58 = .int .i64 i ∧ s7 = .int .i64 (be (b.take i))) (fun _ s58 => b.length - (intOf s58).toNat)
  case atStart => exact ⟨0, by omega, rfl, by simp [be]⟩
  case round =>
   obtain ⟨i, hi, rfl, rfl⟩ := hrel
   by_cases hlt : i < b.length
   ·have hbd := HBD.out i hlt
    have hsn : be (b.take (i + 1)) = be (b.take i) * 256 + b[i].toNat := by
     rw [List.take_succ_eq_append_getElem hlt, be_snoc]
    have HSN := Lib.hid hsn
    clear hsn
    have hbi := b[i].toNat_lt
    generalize be (b.take i) = m at *
    go_wp2_with fail
    exact ⟨⟨i + 1, by omega, by go_num, by rw [HSN.out, i64_or_byte _ _ hbd hbi]⟩, by simp [intOf]; omega⟩
   ·go_wp2_with fail
    go_ret2
    unfold NumAt
    rw [HF.out]
    have hib : i = b.length := by omega
    subst hib
    exact ⟨ret_two (by simp) rfl, ⟨at_ + 1 + b.length, by omega, by omega, B2, fun _ => HD.out⟩, hm⟩
end Go.Proofs.YtjppbomngnomhaaGreatDoor
namespace Go.Proofs.YtjppbomngnomhaaGreatDoor
open Go.RowKit Pl
def Rdr (w : World) (p : Nat) (s : Bs) (c : Int) : Prop :=
 ∃ (l : Bs) (at_ : Nat), l.length ≤ 9223372036854775807 ∧ at_ ≤ l.length ∧ l.drop at_ = s ∧ Blk w p #[.string ⟨List.toArray l⟩, .int .i64 at_, .int .i64 c]
theorem Rdr.mod {w w' : World} {p : Nat} {s : Bs} {c : Int} (h : Rdr w p s c) {l : List Nat} (hm : Mod l w w') (hb : p ∉ l) : Rdr w' p s c := by
 obtain ⟨l, a, h1, h2, h3, B⟩ := h
 exact ⟨l, a, h1, h2, h3, B.mod hm hb⟩
theorem Rdr.new {w : World} {s : Bs} {t : TypeId} (h : s.length ≤ 9223372036854775807) : Rdr (w.alloc (.cells #[.string ⟨List.toArray s⟩, .int .i64 0, .int .i64 0] t)) w.heap.size s 0 :=
 ⟨s, 0, h, by omega, rfl, Blk.new _ _ _⟩
theorem Rdr.alloc {w : World} {p : Nat} {s : Bs} {c : Int} (h : Rdr w p s c) (o : Obj) : Rdr (w.alloc o) p s c := by
 obtain ⟨l, a, h1, h2, h3, B⟩ := h
 exact ⟨l, a, h1, h2, h3, B.alloc o⟩
theorem Rdr.other {w : World} {p : Nat} {s : Bs} {c : Int} (h : Rdr w p s c) {x : Addr} (hx : x.block ≠ p) (v : Value) : Rdr (w.setCell x v) p s c := by
 obtain ⟨l, a, h1, h2, h3, B⟩ := h
 exact ⟨l, a, h1, h2, h3, B.other hx v⟩
theorem Rdr.drew {w : World} {p : Nat} {s : Bs} {c : Int} (h : Rdr w p s c) : Rdr w.drew p s c := by
 obtain ⟨l, a, h1, h2, h3, B⟩ := h
 exact ⟨l, a, h1, h2, h3, B.drew⟩
theorem Rdr.drewN {w : World} {p : Nat} {s : Bs} {c : Int} (h : Rdr w p s c) (n : Nat) : Rdr (w.drewN n) p s c := by
 obtain ⟨l, a, h1, h2, h3, B⟩ := h
 exact ⟨l, a, h1, h2, h3, B.drewN n⟩
theorem bytes_any (s : Bs) (c n : Int) (p : Nat) (w : World) (hn : n ≤ 9223372036854775807) (R : Rdr w p s c) :
  Calls Tryz.prog 107 #[.pointer (some ⟨p, 0, none⟩), .int .i64 n] w fun e w' => e = .returned (.string ⟨List.toArray ((mBytes s c n).1)⟩) ∧ Rdr w' p (mBytes s c n).2.1 (mBytes s c n).2.2 ∧ Mod [p] w w' := by
 obtain ⟨l, a, h1, h2, rfl, B⟩ := id R
 obtain ⟨b1, b2, b3⟩ := id B
 by_cases hc : c = 0
 ·subst hc
  by_cases hn0 : n < 0
  ·rw [show mBytes (l.drop a) 0 n = ([], l.drop a, 1) from by simp [mBytes, hn0]]
   go_enter Tryz.func107, Tryz.ntmps107
   go_wp2_with fail
   refine (refused_yes l a a 1 p _ B).mono ?_
   rintro e w1 ⟨rfl, B1, m1⟩
   clear b1 b2 b3
   go_wp2_with fail
   go_ret
   exact ⟨rfl, ⟨l, a, h1, h2, rfl, B1⟩, m1⟩
  ·obtain ⟨n, rfl⟩ := Int.eq_ofNat_of_zero_le (show 0 ≤ n by omega)
   by_cases hl : l.length < a + n
   ·rw [show mBytes (l.drop a) 0 n = ([], l.drop a, 20) from by unfold mBytes; rw [if_neg (by simp), if_neg (by omega), if_pos (by simp; omega)]]
    go_enter Tryz.func107, Tryz.ntmps107
    go_wp2_with fail
    refine (take_no l a n 0 p _ h1 h2 hl B).mono ?_
    rintro e w1 ⟨rfl, B1, m1⟩
    clear b1 b2 b3
    obtain ⟨b1, b2, b3⟩ := id B1
    go_wp2_with fail
    refine (refused_yes l a a 20 p _ B1).mono ?_
    rintro e w2 ⟨rfl, B2, m2⟩
    clear b1 b2 b3
    go_wp2_with fail
    go_ret
    exact ⟨rfl, ⟨l, a, h1, h2, rfl, B2⟩, m1.trans m2⟩
   ·rw [show mBytes (l.drop a) 0 n = ((l.drop a).take n, l.drop (a + n), 0) from by
     have : ¬ ((l.drop a).length : Int) < n := by simp; omega
     simp only [mBytes, this, ne_eq, not_true_eq_false, if_false]
     rw [if_neg (by omega)]; simp]
    go_enter Tryz.func107, Tryz.ntmps107
    go_wp2_with fail
    refine (take_yes l a n 0 p _ h1 (by omega) B).mono ?_
    rintro e w1 ⟨rfl, B1, m1⟩
    clear b1 b2 b3
    go_wp2_with fail
    go_ret
    exact ⟨rfl, ⟨l, a + n, h1, by omega, rfl, B1⟩, m1⟩
 ·rw [show mBytes (l.drop a) c n = ([], l.drop a, c) from by simp [mBytes, hc]]
  have hc1 : (c == 0) = false := by simpa using hc
  have hc2 : (c != 0) = true := by simpa using hc
  go_enter Tryz.func107, Tryz.ntmps107
  go_wp2_with fail
  go_ret
  exact ⟨rfl, R, Mod.refl _ _⟩
theorem number_ok (l : Bs) (at_ : Nat) (p : Nat) (w : World) (hl : l.length ≤ 9223372036854775807) (ha : at_ ≤ l.length) (B : Blk w p #[.string ⟨List.toArray l⟩, .int .i64 at_, .int .i64 0]) :
  Calls Tryz.prog 144 #[.pointer (some ⟨p, 0, none⟩)] w fun e w' => e = .returned (.tuple #[.int .i64 ((Pl.take (l.drop at_)).1), .int .i64 ((Pl.take (l.drop at_)).2.2)]) ∧ NumAt p l at_ w' ∧ Mod [p] w w' := by
 cases hs : l.drop at_ with
 | nil =>
  have hx : at_ = l.length := by
   have := congrArg List.length hs
   simp at this
   omega
  refine (number_empty l at_ p w hl hx B).mono ?_
  rintro e w1 ⟨rfl, B1, m1⟩
  exact ⟨rfl, ⟨at_, ha, by omega, B1, fun h => by rw [hs] at h; cases h⟩, m1⟩
 | cons k r =>
  rw [← hs]
  exact number_some l at_ k r p w hl hs B
theorem number_bad (l : Bs) (at_ : Nat) (c : Int) (hc : c ≠ 0) (p : Nat) (w : World) (B : Blk w p #[.string ⟨List.toArray l⟩, .int .i64 at_, .int .i64 c]) :
  Calls Tryz.prog 144 #[.pointer (some ⟨p, 0, none⟩)] w fun e w' => e = .returned (.tuple #[.int .i64 0, .int .i64 c]) ∧ ∃ n, w' = w.drewN n := by
 obtain ⟨b1, b2, b3⟩ := id B
 have hc1 : (c == 0) = false := by simpa using hc
 have hc2 : (c != 0) = true := by simpa using hc
 go_enter Tryz.func144, Tryz.ntmps144
 go_wp2_with fail
 go_quiet (fail)
 go_wp2_with fail
 go_ret2
 exact ⟨rfl, _, rfl⟩
theorem rtext_in (l : Bs) (at_ : Nat) (most : Int) (p : Nat) (w : World) (hl : l.length ≤ 9223372036854775807) (ha : at_ ≤ l.length) (B : Blk w p #[.string ⟨List.toArray l⟩, .int .i64 at_, .int .i64 0]) :
  Calls Tryz.prog 140 #[.pointer (some ⟨p, 0, none⟩), .int .i64 most] w fun e w' => e = .returned (.tuple #[.string ⟨List.toArray ((tx (l.drop at_) most).1)⟩, .int .i64 ((tx (l.drop at_) most).2.2)]) ∧
   (∃ x : Nat, x ≤ l.length ∧ Blk w' p #[.string ⟨List.toArray l⟩, .int .i64 x, .int .i64 0] ∧ ((tx (l.drop at_) most).2.2 = 0 → l.drop x = (tx (l.drop at_) most).2.1)) ∧ Mod [p] w w' := by
 have htl := take_le (l.drop at_)
 by_cases he : (Pl.take (l.drop at_)).2.2 = 0
 ·obtain ⟨hn, kk, hk1, hk2, hk3⟩ := htl he
  have hlen : (Pl.take (l.drop at_)).2.1.length + kk + at_ = l.length := by
   rw [hk3]; simp at hk2 ⊢; omega
  clear htl
  by_cases hm : most < (Pl.take (l.drop at_)).1
  ·rw [show tx (l.drop at_) most = ([], [], 2) from by unfold tx; rw [if_neg (by simpa using he), if_pos hm]]
   go_enter Tryz.func140, Tryz.ntmps140
   go_wp2_with fail
   refine (number_ok l at_ p _ hl ha B).mono ?_
   rintro e w1 ⟨rfl, ⟨x, hx1, hx2, B1, hx3⟩, m1⟩
   rw [he]
   clear hx3 he hk3
   go_wp2_with fail
   go_ret2
   exact ⟨rfl, ⟨x, hx1, B1, fun h => by cases h⟩, m1⟩
  ·by_cases hr : (Pl.take (l.drop at_)).2.1.length < (Pl.take (l.drop at_)).1
   ·rw [show tx (l.drop at_) most = ([], [], 20) from by unfold tx; rw [if_neg (by simpa using he), if_neg hm, if_pos hr]]
    go_enter Tryz.func140, Tryz.ntmps140
    go_wp2_with fail
    refine (number_ok l at_ p _ hl ha B).mono ?_
    rintro e w1 ⟨rfl, ⟨x, hx1, hx2, B1, hx3⟩, m1⟩
    rw [he]
    have hx4 : (l.drop x).length = (Pl.take (l.drop at_)).2.1.length := by rw [hx3 he]
    have hx5 : l.length - x = (Pl.take (l.drop at_)).2.1.length := by simpa using hx4
    clear hx3 hx4 he hk3
    have HX := Lib.hid hx5
    clear hx5
    have HL := Lib.hid hlen
    clear hlen
    go_wp2_with fail
    refine (take_no l x _ 0 p _ hl hx1 (by have := HX.out; omega) B1).mono ?_
    rintro e w2 ⟨rfl, B2, m2⟩
    go_wp2_with fail
    go_ret2
    exact ⟨rfl, ⟨x, hx1, B2, fun h => by cases h⟩, m1.trans m2⟩
   ·rw [show tx (l.drop at_) most = ((Pl.take (l.drop at_)).2.1.take (Pl.take (l.drop at_)).1, (Pl.take (l.drop at_)).2.1.drop (Pl.take (l.drop at_)).1, 0) from by unfold tx; rw [if_neg (by simpa using he), if_neg hm, if_neg hr]]
    go_enter Tryz.func140, Tryz.ntmps140
    go_wp2_with fail
    refine (number_ok l at_ p _ hl ha B).mono ?_
    rintro e w1 ⟨rfl, ⟨x, hx1, hx2, B1, hx3⟩, m1⟩
    rw [he]
    have hx4 := hx3 he
    have hx5 : l.length - x = (Pl.take (l.drop at_)).2.1.length := by rw [← hx4]; simp
    clear hx3 he hk3
    have HX := Lib.hid hx5
    have HX4 := Lib.hid hx4
    clear hx5 hx4
    have HL := Lib.hid hlen
    clear hlen
    have hgo : x + (Pl.take (l.drop at_)).1 ≤ l.length := by have := HX.out; omega
    go_wp2_with fail
    refine (take_yes l x _ 0 p _ hl hgo B1).mono ?_
    rintro e w2 ⟨rfl, B2, m2⟩
    go_wp2_with fail
    go_ret2
    refine ⟨ret_two (str_eq (by rw [HX4.out])) rfl, ⟨_, hgo, B2, fun _ => ?_⟩, m1.trans m2⟩
    rw [← List.drop_drop, HX4.out]
 ·rw [show tx (l.drop at_) most = ([], [], (Pl.take (l.drop at_)).2.2) from by unfold tx; rw [if_pos he]]
  have hc2 : ((Pl.take (l.drop at_)).2.2 != 0) = true := by simpa using he
  clear htl
  go_enter Tryz.func140, Tryz.ntmps140
  go_wp2_with fail
  refine (number_ok l at_ p _ hl ha B).mono ?_
  rintro e w1 ⟨rfl, ⟨x, hx1, hx2, B1, hx3⟩, m1⟩
  clear hx3
  go_wp2_with fail
  go_ret2
  exact ⟨rfl, ⟨x, hx1, B1, fun h => absurd h he⟩, m1⟩
theorem rtext_bad (l : Bs) (at_ : Nat) (most c : Int) (hc : c ≠ 0) (p : Nat) (w : World) (B : Blk w p #[.string ⟨List.toArray l⟩, .int .i64 at_, .int .i64 c]) :
  Calls Tryz.prog 140 #[.pointer (some ⟨p, 0, none⟩), .int .i64 most] w fun e w' => e = .returned (.tuple #[.string ⟨List.toArray []⟩, .int .i64 c]) ∧ ∃ n, w' = w.drewN n := by
 have hc2 : (c != 0) = true := by simpa using hc
 go_enter Tryz.func140, Tryz.ntmps140
 go_wp2_with fail
 refine (number_bad l at_ c hc p _ B).mono ?_
 rintro e w1 ⟨rfl, nq, rfl⟩
 go_wp2_with fail
 go_ret2
 exact ⟨rfl, _, rfl⟩
theorem rtext_any (s : Bs) (c most : Int) (p : Nat) (w : World) (R : Rdr w p s c) :
  Calls Tryz.prog 129 #[.pointer (some ⟨p, 0, none⟩), .int .i64 most] w fun e w' => e = .returned (.string ⟨List.toArray ((mText s c most).1)⟩) ∧ Rdr w' p (mText s c most).2.1 (mText s c most).2.2 ∧ Mod [p] w w' := by
 obtain ⟨l, a, h1, h2, rfl, B⟩ := id R
 obtain ⟨b1, b2, b3⟩ := id B
 by_cases hc : c = 0
 ·subst hc
  by_cases he : (tx (l.drop a) most).2.2 = 0
  ·rw [show mText (l.drop a) 0 most = ((tx (l.drop a) most).1, (tx (l.drop a) most).2.1, 0) from by simp [mText, he]]
   go_enter Tryz.func129, Tryz.ntmps129
   go_wp2_with fail
   refine (rtext_in l a most p _ h1 h2 B).mono ?_
   rintro e w1 ⟨rfl, ⟨x, hx1, B1, hx3⟩, m1⟩
   rw [he]
   have HX := Lib.hid (hx3 he)
   clear hx3 he b1 b2 b3
   go_wp2_with fail
   go_ret
   exact ⟨rfl, ⟨l, x, h1, hx1, HX.out, B1⟩, m1⟩
  ·rw [show mText (l.drop a) 0 most = ([], l.drop a, (tx (l.drop a) most).2.2) from by simp [mText, he]]
   go_enter Tryz.func129, Tryz.ntmps129
   go_wp2_with fail
   refine (rtext_in l a most p _ h1 h2 B).mono ?_
   rintro e w1 ⟨rfl, ⟨x, hx1, B1, hx3⟩, m1⟩
   clear hx3 b1 b2 b3
   have hc2 : ((tx (l.drop a) most).2.2 != 0) = true := by simpa using he
   go_wp2_with fail
   refine (refused_yes l x a _ p _ B1).mono ?_
   rintro e w2 ⟨rfl, B2, m2⟩
   go_wp2_with fail
   go_ret
   exact ⟨rfl, ⟨l, a, h1, h2, rfl, B2⟩, m1.trans m2⟩
 ·rw [show mText (l.drop a) c most = ([], l.drop a, c) from by simp [mText, hc]]
  have hc2 : (c != 0) = true := by simpa using hc
  go_enter Tryz.func129, Tryz.ntmps129
  go_wp2_with fail
  refine (rtext_bad l a most c hc p _ B).mono ?_
  rintro e w1 ⟨rfl, nq, rfl⟩
  go_wp2_with fail
  refine (refused_no l a a c c hc p _ (B.drewN nq)).mono ?_
  rintro e w2 ⟨rfl, rfl⟩
  go_wp2_with fail
  go_ret
  exact ⟨rfl, R.drewN nq, (Mod.refl _ _).drewN nq⟩
theorem rend_any (s : Bs) (c : Int) (p : Nat) (w : World) (R : Rdr w p s c) :
  Calls Tryz.prog 110 #[.pointer (some ⟨p, 0, none⟩)] w fun e w' => e = .returned (.int .i64 (mEnd s c)) ∧ Mod [p] w w' := by
 obtain ⟨l, a, h1, h2, rfl, B⟩ := id R
 obtain ⟨b1, b2, b3⟩ := id B
 by_cases hl : a = l.length
 ·rw [show mEnd (l.drop a) c = c from by subst hl; simp [mEnd]]
  have h0 : ¬ (0 : Int) < (l.length : Int) - a := by omega
  have HL := Lib.hid hl
  clear hl
  go_enter Tryz.func110, Tryz.ntmps110
  go_wp2_with fail
  refine (left_any l a c p _ h1 h2 B).mono ?_
  rintro e w1 ⟨rfl, nq, rfl⟩
  go_wp2_with fail
  go_ret
  exact ⟨rfl, (Mod.refl _ _).drewN _⟩
 ·have h0 : (0 : Int) < (l.length : Int) - a := by omega
  have hne : l.drop a ≠ [] := by intro h; have := congrArg List.length h; simp at this; omega
  by_cases hc : c = 0
  ·subst hc
   rw [show mEnd (l.drop a) 0 = 3 from by unfold mEnd; rw [if_pos ⟨rfl, hne⟩]]
   go_enter Tryz.func110, Tryz.ntmps110
   go_wp2_with fail
   refine (left_any l a 0 p _ h1 h2 B).mono ?_
   rintro e w1 ⟨rfl, nq, rfl⟩
   go_wp2_with fail
   refine (refused_yes l a a 3 p _ (B.drewN nq)).mono ?_
   rintro e w2 ⟨rfl, B2, m2⟩
   clear b1 b2 b3
   obtain ⟨b1, b2, b3⟩ := id B2
   go_wp2_with fail
   go_ret
   exact ⟨rfl, ((Mod.refl _ _).drewN nq).trans m2⟩
  ·rw [show mEnd (l.drop a) c = c from by unfold mEnd; rw [if_neg (fun h => hc h.1)]]
   go_enter Tryz.func110, Tryz.ntmps110
   go_wp2_with fail
   refine (left_any l a c p _ h1 h2 B).mono ?_
   rintro e w1 ⟨rfl, nq, rfl⟩
   go_wp2_with fail
   refine (refused_no l a a c 3 hc p _ (B.drewN nq)).mono ?_
   rintro e w2 ⟨rfl, rfl⟩
   go_wp2_with fail
   go_ret
   exact ⟨rfl, (Mod.refl _ _).drewN _⟩
end Go.Proofs.YtjppbomngnomhaaGreatDoor
namespace Go.Proofs.YtjppbomngnomhaaGreatDoor
open Go.RowKit Pl
theorem bs_size (s : Bs) : (⟨s.toArray⟩ : ByteArray).size = s.length := by simp [ByteArray.size]
end Go.Proofs.YtjppbomngnomhaaGreatDoor
namespace Go.Proofs.YtjppbomngnomhaaGreatDoor
namespace Pl
theorem nodup_len : ∀ (l a : List Bs), l.Nodup → (∀ x ∈ l, x ∈ a) → l.length ≤ a.length
 | [], _, _, _ => by simp
 | x :: l, a, hn, h => by
  rw [List.nodup_cons] at hn
  have hx : x ∈ a := h x (by simp)
  have ih := nodup_len l (a.erase x) hn.2 (fun y hy => (List.mem_erase_of_ne (fun e => hn.1 (by rw [← e]; exact hy))).2 (h y (by simp [hy])))
  rw [List.length_erase_of_mem hx] at ih
  have : 0 < a.length := List.length_pos_of_mem hx
  simp only [List.length_cons]
  omega
end Pl
end Go.Proofs.YtjppbomngnomhaaGreatDoor
namespace Go.Proofs.YtjppbomngnomhaaGreatDoor
open Go.RowKit Go.WideMaps Go.Maps Pl
theorem keyedS : Keyed Tryz.prog 9 := string_keyed Tryz.underlying9
theorem zeroI (w : World) : (zeroValue 3).run Tryz.prog w = .ok (.int .i64 0) w := by kernel_rfl
end Go.Proofs.YtjppbomngnomhaaGreatDoor
namespace Go.Proofs.YtjppbomngnomhaaGreatDoor
open Go.RowKit Go.WideMaps Go.Maps Go.Sort Pl
theorem takeSo (l : List Bs) (i : Nat) (hi : i < l.length) : l.take (i + 1) = l.take i ++ [l.getD i []] := by
 rw [List.take_add_one, List.getElem?_eq_getElem hi, List.getD_eq_getElem?_getD, List.getElem?_eq_getElem hi]
 rfl
end Go.Proofs.YtjppbomngnomhaaGreatDoor
namespace Go.Proofs.YtjppbomngnomhaaGreatDoor
open Go.RowKit Go.WideMaps Go.Maps Pl
abbrev Sg := Bs × Bs × Bool
def gv : List Sg → List Value
 | [] => []
 | x :: r => .string ⟨List.toArray x.1⟩ :: .string ⟨List.toArray x.2.1⟩ :: .bool x.2.2 :: gv r
theorem gone : ∀ (l : List Sg), ∀ u ∈ gv l, u.oneCell' = true
 | [], u, h => by simp [gv] at h
 | x :: r, u, h => by
  simp only [gv, List.mem_cons] at h
  rcases h with rfl | rfl | rfl | h
  ·rfl
  ·rfl
  ·rfl
  ·exact gone r u h
theorem ownsMap_at {H : Type} {R : Value → Option (DataW H × List MemPlace)} {W w : World} {t : TypeId} {b n : Nat} {D : DataW H} (h : W.ownsMap Tryz.prog t R b n D) (hb : w.heap[b]? = W.heap[b]?) : w.ownsMap Tryz.prog t R b n D := by
 obtain ⟨es, clock, h1, h2⟩ := h
 exact ⟨es, clock, hb.trans h1, h2⟩
end Go.Proofs.YtjppbomngnomhaaGreatDoor
namespace Go.Proofs.YtjppbomngnomhaaGreatDoor
open Go.RowKit Go.WideMaps Go.Maps Go.Sort Pl
abbrev nilV : Value := .slice none 0 0
def hR (v : Value) : Option (DataW Value × List MemPlace) := some (.held v, [])
theorem hR_inv {v u : Value} {ps : List MemPlace} (h : hR v = some (.held u, ps)) : v = u := by
 unfold hR at h
 injection h with h
 injection h with h _
 injection h
def BTx (w : World) (base : Nat) (v : Value) (t : Bs) : Prop :=
 ∃ g cap c fz, v = .slice (some ⟨g, 0, none⟩) t.length cap ∧ base ≤ g ∧ g < w.heap.size ∧ w.heap[g]? = some (Obj.cells c 5 fz) ∧ ∀ i, i < t.length → w.cell? ⟨g, i, none⟩ = some (.int .u8 ((t.getD i 0).toNat : Int))
theorem BTx.kept {w w' : World} {base : Nat} {v : Value} {t : Bs} (h : BTx w base v t) (hs : w.heap.size ≤ w'.heap.size) (hk : ∀ (g : Nat) c fz, w.heap[g]? = some (Obj.cells c 5 fz) → w'.heap[g]? = w.heap[g]?) : BTx w' base v t := by
 obtain ⟨g, cap, c, fz, h1, h2, h3, h4, h5⟩ := h
 have hg := hk g c fz h4
 exact ⟨g, cap, c, fz, h1, h2, by omega, hg.trans h4, fun i hi => (World.cell?_of_block (a := ⟨g, i, none⟩) hg).trans (h5 i hi)⟩
theorem BTx.conv {w : World} {base : Nat} {v : Value} {t : Bs} (h : BTx w base v t) : (convert 59 9 v).run Tryz.prog w = .ok (.string ⟨List.toArray t⟩) w := by
 obtain ⟨g, cap, c, fz, rfl, h2, h3, h4, h5⟩ := h
 exact conv_str 59 5 9 Tryz.underlying59 Tryz.underlying5 Tryz.underlying9 g 0 t.length cap t rfl (fun i hi => by simpa using h5 i hi)
theorem run_conv_btx (w : World) (s : Bs) (hs : s.length ≤ maxLen) :
  ∃ v w', (convert 9 59 (.string ⟨List.toArray s⟩)).run Tryz.prog w = .ok v w' ∧ BTx w' w.heap.size v s ∧ Below w.heap.size w w' := by
 have hr := Lib.run_convert_string_bytes (P := Tryz.prog) w 9 59 5 ⟨s.toArray⟩ Tryz.underlying9 Tryz.underlying59 Tryz.underlying5
 have hz := bs_size s
 rw [hz] at hr
 refine ⟨_, _, hr, ⟨w.heap.size, _, _, _, rfl, Nat.le_refl _, by rw [Lib.bytesWorld_size]; omega, Lib.bytesWorld_at_new w 5 ⟨s.toArray⟩, fun i hi => Lib.bytesWorld_cell w 5 ⟨s.toArray⟩ i (by rw [hz]; exact hi)⟩, ⟨rfl, rfl, rfl, by rw [Lib.bytesWorld_size]; omega, fun k hk => Lib.bytesWorld_at_old w _ _ k (by omega)⟩⟩
theorem wpList_convT {ops : Array Oper} {o : Oper} {rest : List Oper} {a : Act} {w : World} {Q : Exit → Act → World → Prop} (hgd : o.guard = none) (x : Operand) (ho : o.op = .convert 9 59 x) (s : Bs) (hx : a.eval x = .string ⟨List.toArray s⟩) (hs : s.length ≤ maxLen)
  (h : ∀ v' w', BTx w' w.heap.size v' s → Below w.heap.size w w' → wpList Tryz.prog ops Q rest (a.put o.dst v') w') : wpList Tryz.prog ops Q (o :: rest) a w := by
 refine wpList_plain hgd fun K hK => ?_
 obtain ⟨v, w', hr, h2, h3⟩ := run_conv_btx w s hs
 unfold Oper.wp execOp
 simp only [ho, hx, Sem.run_bind, Sem.run_pure, Result.andThen_ok, hr]
 exact hK _ _ (h v w' h2 h3)
abbrev Ent := Bs × Bs
def keysE (T : List Ent) : List Bs := T.map (·.1)
structure StoD (w : World) (base : Nat) (D : DataW Value) (T : List Ent) : Prop where
 has : ∀ k : Bs, Maps.has D (.string k) = decide (k ∈ keysE T)
 val : ∀ e ∈ T, ∃ v, D.atKey (.string e.1) (.held nilV) = .held v ∧ BTx w base v e.2
 nodup : (keysE T).Nodup
 size : Maps.size D = T.length
structure Sto (w : World) (base p b : Nat) (T : List Ent) : Prop where
 hp : base ≤ p
 hb : base ≤ b
 cell : w.heap[p]? = some (Obj.cells #[.map (some b)] 86)
 lt : p < w.heap.size
 own : ∃ D, w.ownsMap Tryz.prog 9 hR b T.length D ∧ StoD w base D T
def StoK (w : World) (k : Nat) : Prop := (∃ es c, w.heap[k]? = some (Obj.map es c)) ∨ (∃ c fz, w.heap[k]? = some (Obj.cells c 5 fz)) ∨ (∃ c fz, w.heap[k]? = some (Obj.cells c 86 fz))
section
variable {w w' : World} {base p b : Nat} {T : List Ent}
theorem Sto.blk (h : Sto w base p b T) : Blk w p #[.map (some b)] := Blk.of_heap h.cell h.lt
theorem Sto.blt (h : Sto w base p b T) : b < w.heap.size := by
 obtain ⟨D, ho, _⟩ := h.own
 exact ho.lt
theorem StoD.kept {D : DataW Value} (h : StoD w base D T) (hs : w.heap.size ≤ w'.heap.size) (hk : ∀ (g : Nat) c fz, w.heap[g]? = some (Obj.cells c 5 fz) → w'.heap[g]? = w.heap[g]?) : StoD w' base D T :=
 ⟨h.has, fun e he => by obtain ⟨v, h1, h2⟩ := h.val e he; exact ⟨v, h1, h2.kept hs hk⟩, h.nodup, h.size⟩
theorem Sto.kept (h : Sto w base p b T) (hs : w.heap.size ≤ w'.heap.size) (hk : ∀ k, StoK w k → w'.heap[k]? = w.heap[k]?) : Sto w' base p b T := by
 obtain ⟨D, ho, hD⟩ := h.own
 have hp := hk p (.inr (.inr ⟨_, _, h.cell⟩))
 have hb : w'.heap[b]? = w.heap[b]? := by
  obtain ⟨es, c, h1, _⟩ := ho
  exact hk b (.inl ⟨es, c, h1⟩)
 exact ⟨h.hp, h.hb, hp.trans h.cell, by have := h.lt; omega, D, ownsMap_at ho hb, hD.kept hs (fun g c fz hg => hk g (.inr (.inl ⟨c, fz, hg⟩)))⟩
theorem stok_lt {k : Nat} (h : StoK w k) : k < w.heap.size := by
 rcases Nat.lt_or_ge k w.heap.size with hlt | hge
 ·exact hlt
 ·rcases h with ⟨_, _, h⟩ | ⟨_, _, h⟩ | ⟨_, _, h⟩ <;> (rw [Array.getElem?_eq_none hge] at h; cases h)
theorem Sto.keep (h : Sto w base p b T) (hb : Below w.heap.size w w') : Sto w' base p b T :=
 h.kept hb.size (fun k hk => hb.block k (stok_lt hk))
end
def putT (T : List Ent) (t : Bs) : List Ent := if tagP 1 t ∈ keysE T then T else T ++ [(tagP 1 t, t)]
def getT (T : List Ent) (k : Bs) : Option Bs := (T.find? (fun e => e.1 == k)).map (·.2)
theorem get_some {T : List Ent} (hn : (keysE T).Nodup) {e : Ent} (he : e ∈ T) : getT T e.1 = some e.2 := by
 induction T with
 | nil => cases he
 | cons x r ih =>
  unfold keysE at hn
  rw [List.map_cons, List.nodup_cons] at hn
  unfold getT
  rcases List.mem_cons.1 he with rfl | he
  ·simp
  ·have hne : (x.1 == e.1) = false := by
    rw [beq_eq_false_iff_ne]
    intro h
    exact hn.1 (by rw [h]; exact List.mem_map.2 ⟨e, he, rfl⟩)
   rw [List.find?_cons_of_neg (by rw [hne]; simp)]
   exact ih hn.2 he
theorem get_none {T : List Ent} {k : Bs} (h : k ∉ keysE T) : getT T k = none := by
 unfold getT
 rw [List.find?_eq_none.2 (fun x hx => by
  intro e
  exact h (List.mem_map.2 ⟨x, hx, by simpa using e⟩))]
 rfl
theorem keyS (k : Bs) (h : k.length ≤ maxLen) : keyOf Tryz.prog 9 (.string ⟨List.toArray k⟩) = some (.string k) := keyOf_string_mk Tryz.underlying9 (by simpa [ByteArray.size] using h)
theorem isKeyS (k : Bs) : WideAt.IsKeyLit (.string k) := by first | trivial | exact ⟨_, rfl⟩ | simp [WideAt.IsKeyLit]
end Go.Proofs.YtjppbomngnomhaaGreatDoor
namespace Go.Proofs.YtjppbomngnomhaaGreatDoor
open Go.RowKit
def okW (b : Nat → Int) (W : List Int) : Bool := (List.range 64).all fun i => decide (W.getD i 0 = if i < 16 then word4 b i else (W.getD (i - 16) 0 + sg0 (W.getD (i - 15) 0) + W.getD (i - 7) 0 + sg1 (W.getD (i - 2) 0)) % 4294967296)
theorem okW_sch (b : Nat → Int) (W : List Int) (h : okW b W = true) (i : Nat) (hi : i < 64) : sch b i = W.getD i 0 := by
 induction i using Nat.strongRecOn with
 | _ i ih =>
  have h2 := List.all_eq_true.1 h i (by simpa using hi)
  rw [decide_eq_true_iff] at h2
  rw [h2]
  by_cases h16 : i < 16
  ·rw [if_pos h16, sch_lo b i h16]
  ·rw [if_neg h16, sch_hi b i h16, ih (i - 16) (by omega) (by omega), ih (i - 15) (by omega) (by omega), ih (i - 7) (by omega) (by omega), ih (i - 2) (by omega) (by omega)]
def stL (S : List (List Int)) (n : Nat) : Nat → Int := fun j => (S.getD n []).getD j 0
def okR (g : Nat → Int) (W : List Int) (S : List (List Int)) : Bool :=
 (List.range 8).all (fun j => decide (stL S 0 j = g j)) && (List.range 64).all fun n => (List.range 8).all fun j => decide (stL S (n + 1) j = rnd (kc n) (W.getD n 0) (stL S n) j)
theorem rnd_of (k w : Int) (u v : Nat → Int) (h : ∀ j, j < 8 → u j = v j) : ∀ j, j < 8 → rnd k w u j = rnd k w v j := by
 intro j hj
 unfold rnd
 have h0 := h 0 (by omega)
 have h1 := h 1 (by omega)
 have h2 := h 2 (by omega)
 have h3 := h 3 (by omega)
 have h4 := h 4 (by omega)
 have h5 := h 5 (by omega)
 have h6 := h 6 (by omega)
 have h7 := h 7 (by omega)
 split <;> first | rfl | assumption | (simp only [h0, h1, h2, h3, h4, h5, h6, h7])
theorem okR_rds (g b : Nat → Int) (W : List Int) (S : List (List Int)) (hw : okW b W = true) (h : okR g W S = true) : ∀ n, n ≤ 64 → ∀ j, j < 8 → rds g b n j = stL S n j := by
 unfold okR at h
 rw [Bool.and_eq_true] at h
 intro n
 induction n with
 | zero =>
  intro _ j hj
  have := List.all_eq_true.1 h.1 j (by simpa using hj)
  rw [decide_eq_true_iff] at this
  exact this.symm
 | succ n ih =>
  intro hn j hj
  have h2 := List.all_eq_true.1 h.2 n (by simp; omega)
  have h3 := List.all_eq_true.1 h2 j (by simpa using hj)
  rw [decide_eq_true_iff] at h3
  rw [h3, rds, okW_sch b W hw n (by omega)]
  exact rnd_of _ _ _ _ (ih (by omega)) j hj
theorem sum_byte (s : List UInt8) (W : List Int) (S : List (List Int)) (hp : (padP s).length / 64 = 1) (hw : okW (blkB (padP s) 0) W = true) (h : okR firstW W S = true) :
  (sumP s).getD 0 0 = UInt8.ofNat (((stL S 64 0 + firstW 0) % 4294967296 / 16777216 % 256).toNat) := by
 have h1 := okR_rds firstW (blkB (padP s) 0) W S hw h 64 (by omega) 0 (by omega)
 have h2 : (sumP s).getD 0 0 = UInt8.ofNat (byteAt (blkN firstW (padP s) ((padP s).length / 64)) 0).toNat := by simp [sumP, toldP]
 rw [h2, hp]
 show UInt8.ofNat (byteAt (blk firstW (blkB (padP s) 0)) 0).toNat = _
 unfold byteAt blk
 simp only [Nat.zero_div, Nat.zero_mod, if_true]
 rw [h1]
end Go.Proofs.YtjppbomngnomhaaGreatDoor
namespace Go.Proofs.YtjppbomngnomhaaGreatDoor
open Go.RowKit Pl
def four : List (Bs × Int) := [([97], 1), ([98], 1), ([99], 1), ([100], 1)]
end Go.Proofs.YtjppbomngnomhaaGreatDoor
namespace Go.Proofs.YtjppbomngnomhaaGreatDoor
open Go.RowKit Go.WideMaps Go.Maps Pl
theorem heap_setCell {w : World} {g o : Nat} {cur : Array Value} {e : TypeId} {fr : Nat × Nat} {v : Value} (h : w.heap[g]? = some (.cells cur e fr)) : (w.setCell ⟨g, o, none⟩ v).heap[g]? = some (.cells (cur.setIfInBounds o v) e fr) := by
 unfold World.setCell
 simp [Array.getElem?_modify, h]
end Go.Proofs.YtjppbomngnomhaaGreatDoor
