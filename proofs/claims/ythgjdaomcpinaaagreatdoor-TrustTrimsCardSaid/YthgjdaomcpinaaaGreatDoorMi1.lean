/- Shelf9, THts, TFirst, Shelf10, Shelf11. -/
import Derived.Test.YthgjdaomcpinaaaGreatDoorProg
import Derived.Shelf.SlIterI.Nil
import Derived.Shelf.SortM.Plain
import Derived.Shelf.SortM.SortNone
import Derived.Test.YthgjdaomcpinaaaGreatDoorMg27
import Derived.Test.YthgjdaomcpinaaaGreatDoorMg5
import Derived.Shelf.Slices.Reverse
import Derived.Shelf.Slices.SearchI
set_option linter.unnecessarySimpa false

/- The laws of the library that the sorts lean on, at this program. -/
set_option linter.unusedVariables false
namespace Go.Proofs.YthgjdaomcpinaaaGreatDoor
open Go.Shelf

def keysT_ren : Go.Shelf.Ren := ⟨fun | 7 => 76 | 10 => 137 | n => n, fun | 23 => 120 | 26 => 3 | 3 => 27 | 28 => 133 | 0 => 0 | 27 => 132 | 33 => 181 | 4 => 4 | n => n, fun | n => n⟩
theorem keysT : Go.Proofs.SlLaysZI.n7 Tryz.prog keysT_ren := {
  mixed := by kernel_rfl
  f7 := ⟨Tryz.f76.name, by decide, Tryz.func76.trans (congrArg some (by kernel_rfl))⟩
  f10 := ⟨Tryz.f137.name, by decide, Tryz.func137.trans (congrArg some (by kernel_rfl))⟩
  t0 := Tryz.underlying0
  a0 := Tryz.isAgg0
  z0 := Tryz.sizeOf0
  v0 := Tryz.zeroValue0
  t4 := Tryz.underlying4
  a4 := Tryz.isAgg4
  z4 := Tryz.sizeOf4
  v4 := Tryz.zeroValue4
  t23 := Tryz.underlying120
  a23 := Tryz.isAgg120
  z23 := Tryz.sizeOf120
  v23 := Tryz.zeroValue120
  t26 := Tryz.underlying3
  a26 := Tryz.isAgg3
  z26 := Tryz.sizeOf3
  v26 := Tryz.zeroValue3
  t27 := Tryz.underlying132
  a27 := Tryz.isAgg132
  z27 := Tryz.sizeOf132
  v27 := Tryz.zeroValue132
  t28 := Tryz.underlying133
  a28 := Tryz.isAgg133
  z28 := Tryz.sizeOf133
  v28 := Tryz.zeroValue133
  t33 := Tryz.underlying181
  a33 := Tryz.isAgg181
  z33 := Tryz.sizeOf181
  v33 := Tryz.zeroValue181 }
def sortedT_ren : Go.Shelf.Ren := ⟨fun | 6 => 75 | 8 => 135 | 9 => 136 | 11 => 162 | 13 => 164 | 12 => 163 | 23 => 187 | 24 => 188 | 14 => 179 | 15 => 180 | 16 => 181 | 17 => 182 | 18 => 183 | 19 => 184 | 20 => 138 | 21 => 185 | 22 => 186 | 25 => 196 | 26 => 197 | 27 => 198 | 28 => 199 | 29 => 200 | 30 => 165 | 31 => 204 | n => n, fun | 26 => 3 | 28 => 133 | 24 => 51 | 0 => 0 | 3 => 3 | 37 => 170 | 48 => 196 | 50 => 199 | 4 => 4 | 40 => 220 | 39 => 219 | 45 => 138 | 5 => 5 | 9 => 9 | 51 => 236 | 55 => 240 | 57 => 246 | 58 => 247 | 33 => 181 | n => n, fun | n => n⟩
theorem sortedT : Go.Proofs.SlLaysZI.n6 Tryz.prog sortedT_ren := {
  mixed := by kernel_rfl
  f6 := ⟨Tryz.f75.name, by decide, Tryz.func75.trans (congrArg some (by kernel_rfl))⟩
  f8 := ⟨Tryz.f135.name, by decide, Tryz.func135.trans (congrArg some (by kernel_rfl))⟩
  f11 := ⟨Tryz.f162.name, by decide, Tryz.func162.trans (congrArg some (by kernel_rfl))⟩
  t0 := Tryz.underlying0
  a0 := Tryz.isAgg0
  z0 := Tryz.sizeOf0
  v0 := Tryz.zeroValue0
  t24 := Tryz.underlying51
  a24 := Tryz.isAgg51
  z24 := Tryz.sizeOf51
  v24 := Tryz.zeroValue51
  t26 := Tryz.underlying3
  a26 := Tryz.isAgg3
  z26 := Tryz.sizeOf3
  v26 := Tryz.zeroValue3
  t28 := Tryz.underlying133
  a28 := Tryz.isAgg133
  z28 := Tryz.sizeOf133
  v28 := Tryz.zeroValue133
  i26 := by kernel_rfl }
def sortT_ren : Go.Shelf.Ren := ⟨fun | 5 => 136 | 8 => 164 | 7 => 163 | 19 => 187 | 20 => 188 | 10 => 179 | 11 => 180 | 12 => 181 | 13 => 182 | 14 => 183 | 15 => 184 | 16 => 138 | 17 => 185 | 18 => 186 | 30 => 196 | 31 => 197 | 32 => 198 | 33 => 199 | 34 => 200 | 35 => 165 | 40 => 204 | n => n, fun | 23 => 51 | 25 => 3 | 3 => 3 | 32 => 170 | 22 => 51 | 0 => 0 | 44 => 196 | 46 => 199 | 4 => 4 | 36 => 220 | 35 => 219 | 41 => 138 | 5 => 5 | 9 => 9 | 53 => 236 | 57 => 240 | 63 => 246 | 64 => 247 | n => n, fun | n => n⟩
theorem sortT : Go.Proofs.SlLaysM.n5 Tryz.prog sortT_ren := {
  mixed := by kernel_rfl
  f5 := ⟨Tryz.f136.name, by decide, Tryz.func136.trans (congrArg some (by kernel_rfl))⟩
  f7 := ⟨Tryz.f163.name, by decide, Tryz.func163.trans (congrArg some (by kernel_rfl))⟩
  f8 := Tryz.func164.trans (congrArg some (by kernel_rfl))
  f10 := ⟨Tryz.f179.name, by decide, Tryz.func179.trans (congrArg some (by kernel_rfl))⟩
  f11 := ⟨Tryz.f180.name, by decide, Tryz.func180.trans (congrArg some (by kernel_rfl))⟩
  f12 := ⟨Tryz.f181.name, by decide, Tryz.func181.trans (congrArg some (by kernel_rfl))⟩
  f13 := ⟨Tryz.f182.name, by decide, Tryz.func182.trans (congrArg some (by kernel_rfl))⟩
  f14 := ⟨Tryz.f183.name, by decide, Tryz.func183.trans (congrArg some (by kernel_rfl))⟩
  f15 := ⟨Tryz.f184.name, by decide, Tryz.func184.trans (congrArg some (by kernel_rfl))⟩
  f16 := ⟨Tryz.f138.name, by decide, Tryz.func138.trans (congrArg some (by kernel_rfl))⟩
  f17 := ⟨Tryz.f185.name, by decide, Tryz.func185.trans (congrArg some (by kernel_rfl))⟩
  f18 := ⟨Tryz.f186.name, by decide, Tryz.func186.trans (congrArg some (by kernel_rfl))⟩
  f19 := Tryz.func187.trans (congrArg some (by kernel_rfl))
  f20 := Tryz.func188.trans (congrArg some (by kernel_rfl))
  f30 := ⟨Tryz.f196.name, by decide, Tryz.func196.trans (congrArg some (by kernel_rfl))⟩
  f31 := Tryz.func197.trans (congrArg some (by kernel_rfl))
  f32 := Tryz.func198.trans (congrArg some (by kernel_rfl))
  f33 := ⟨Tryz.f199.name, by decide, Tryz.func199.trans (congrArg some (by kernel_rfl))⟩
  f34 := ⟨Tryz.f200.name, by decide, Tryz.func200.trans (congrArg some (by kernel_rfl))⟩
  f35 := ⟨Tryz.f165.name, by decide, Tryz.func165.trans (congrArg some (by kernel_rfl))⟩
  f40 := ⟨Tryz.f204.name, by decide, Tryz.func204.trans (congrArg some (by kernel_rfl))⟩
  t0 := Tryz.underlying0
  a0 := Tryz.isAgg0
  z0 := Tryz.sizeOf0
  v0 := Tryz.zeroValue0
  t3 := Tryz.underlying3
  a3 := Tryz.isAgg3
  z3 := Tryz.sizeOf3
  v3 := Tryz.zeroValue3
  t4 := Tryz.underlying4
  a4 := Tryz.isAgg4
  z4 := Tryz.sizeOf4
  v4 := Tryz.zeroValue4
  t5 := Tryz.underlying5
  a5 := Tryz.isAgg5
  z5 := Tryz.sizeOf5
  v5 := Tryz.zeroValue5
  t9 := Tryz.underlying9
  a9 := Tryz.isAgg9
  z9 := Tryz.sizeOf9
  v9 := Tryz.zeroValue9
  t22 := Tryz.underlying51
  a22 := Tryz.isAgg51
  z22 := Tryz.sizeOf51
  v22 := Tryz.zeroValue51
  t23 := Tryz.underlying51
  a23 := Tryz.isAgg51
  z23 := Tryz.sizeOf51
  v23 := Tryz.zeroValue51
  t25 := Tryz.underlying3
  a25 := Tryz.isAgg3
  z25 := Tryz.sizeOf3
  v25 := Tryz.zeroValue3
  t32 := Tryz.underlying170
  a32 := Tryz.isAgg170
  z32 := Tryz.sizeOf170
  v32 := Tryz.zeroValue170
  t35 := Tryz.underlying219
  a35 := Tryz.isAgg219
  z35 := Tryz.sizeOf219
  v35 := Tryz.zeroValue219
  t36 := Tryz.underlying220
  a36 := Tryz.isAgg220
  z36 := Tryz.sizeOf220
  v36 := Tryz.zeroValue220
  t41 := Tryz.underlying138
  a41 := Tryz.isAgg138
  z41 := Tryz.sizeOf138
  v41 := Tryz.zeroValue138
  t44 := Tryz.underlying196
  a44 := Tryz.isAgg196
  z44 := Tryz.sizeOf196
  v44 := Tryz.zeroValue196
  t46 := Tryz.underlying199
  a46 := Tryz.isAgg199
  z46 := Tryz.sizeOf199
  v46 := Tryz.zeroValue199
  t53 := Tryz.underlying236
  a53 := Tryz.isAgg236
  z53 := Tryz.sizeOf236
  v53 := Tryz.zeroValue236
  t57 := Tryz.underlying240
  a57 := Tryz.isAgg240
  z57 := Tryz.sizeOf240
  v57 := Tryz.zeroValue240
  t63 := Tryz.underlying246
  a63 := Tryz.isAgg246
  z63 := Tryz.sizeOf246
  v63 := Tryz.zeroValue246
  t64 := Tryz.underlying247
  a64 := Tryz.isAgg247
  z64 := Tryz.sizeOf247
  v64 := Tryz.zeroValue247 }

end Go.Proofs.YthgjdaomcpinaaaGreatDoor

/- trust.Store.Heights: the heights of what is trusted, in order. The program's walk. -/
set_option linter.unusedSimpArgs false
set_option linter.unusedVariables false
set_option linter.unnecessarySimpa false
namespace Go.Proofs.YthgjdaomcpinaaaGreatDoor
open Go.RowKit Go.WideMaps Go.Maps Go.Sort Go.Shelf Pl

theorem sortsZ (m : Nat) : AnyZI.SortsIn Tryz.prog sortedT_ren Fence.wide m :=
  ⟨fun blk off cap ss W hH hblk hsz => callsIn_wide.2 (AnyM.slices_Sort_int sortT blk off cap ss W hH hblk hsz),
   fun p cap W => callsIn_wide.2 (AnyM.slices_Sort_int_none sortT p cap W)⟩
theorem keysT_any (mb : Option Nat) (W : World) : Calls Tryz.prog 76 #[.map mb] W fun e w' => e = .returned (.func (.func 137) #[] #[.pointer (some ⟨W.heap.size, 0, none⟩)]) ∧ w' = W.alloc (.cells #[.map mb] 120) :=
  (callsIn_wide (n := 5)).1 (AnyZI.keys_in keysT Fence.wide 5 trivial rfl mb W)
/-- Numbers in order. -/
def sortZ (l : List Int) : List Int := l.mergeSort leI
theorem sortZ_len (l : List Int) : (sortZ l).length = l.length := List.length_mergeSort l
theorem sortZ_mem {l : List Int} {x : Int} : x ∈ sortZ l ↔ x ∈ l := List.mem_mergeSort
theorem sortZ_sorted (l : List Int) : (sortZ l).Pairwise (· ≤ ·) := by
  have h := List.pairwise_mergeSort (le := leI) (fun a b c h1 h2 => by simp only [leI, decide_eq_true_eq] at *; omega) (fun a b => by simp only [leI, Bool.or_eq_true, decide_eq_true_eq]; omega) l
  exact h.imp (fun h => by simpa [leI] using h)
theorem sortZ_nodup {l : List Int} (h : l.Nodup) : (sortZ l).Nodup := (List.mergeSort_perm l leI).nodup_iff.2 h
theorem keys_permI {H : Type} {w : World} {R : Value → Option (DataW H × List MemPlace)} {b n : Nat} {D : DataW H} {ss : List Int} (ho : w.ownsMap Tryz.prog 3 R b n D) (hn : ss.Nodup) (hm : ∀ k : Int, Maps.has D (.int .i64 k) = decide (k ∈ ss)) : ss.Perm (intKeys D) :=
  CollectedI.perm (left := fun _ => false) ⟨hn, fun x => by simp [hm]⟩ ho keyedI Tryz.underlying3 (fun _ => rfl)
set_option maxHeartbeats 1000000 in
theorem sortedT_any {H : Type} (b nn : Nat) (D0 : DataW H) (R : Value → Option (DataW H × List MemPlace)) (w : World) (hown : w.ownsMap Tryz.prog 3 R b nn D0) (hmax : Maps.size D0 ≤ 1000000) :
    Calls Tryz.prog 75 #[.func (.func 137) #[] #[.pointer (some ⟨w.heap.size, 0, none⟩)]] (w.alloc (.cells #[.map (some b)] 120)) fun e w' => ∃ v, e = .returned v ∧ ZRow w' w.heap.size v (sortZ (intKeys D0)) ∧ Below w.heap.size (w.alloc (.cells #[.map (some b)] 120)) w' := by
  have hbl := hown.lt
  have hseq : SeqGives Fence.wide 2 Tryz.prog 137 #[.pointer (some ⟨w.heap.size, 0, none⟩)] encZ (fun ss => ss.Perm (intKeys D0)) (Maps.size D0) (w.alloc (.cells #[.map (some b)] 120)) :=
    AnyZI.keys_gives (ρ := keysT_ren) { keysT with } Fence.wide _ trivial rfl (by omega) w.heap.size b nn D0 _ (by simp) (by simp) (by
      obtain ⟨es, clock, hb, Ft, hs, hD⟩ := hown
      exact ⟨es, clock, (Below.heap_alloc _ _ b hbl).trans hb, Ft, hs, hD⟩)
  have h := (callsIn_wide (n := 5)).1 (AnyZI.sorted_in sortedT Fence.wide 5 trivial trivial trivial trivial rfl (by omega) (sortsZ _) (enters_of Tryz.func136 (by kernel_rfl) rfl) 137 #[.pointer (some ⟨w.heap.size, 0, none⟩)] trivial (enters_of Tryz.func137 (by kernel_rfl) rfl) _ _ (by unfold maxLen; omega) (by omega) _ hseq)
  refine h.mono ?_
  rintro e w' ⟨v, ss, rfl, hp, hrow, _, hb⟩
  refine ⟨v, rfl, ?_, hb.mono (by simp)⟩
  have hms : ss.mergeSort (fun x y => decide (x ≤ y)) = sortZ (intKeys D0) := mergeSort_of_perm_i hp
  rw [hms] at hrow
  have hl : ss.length = (sortZ (intKeys D0)).length := by rw [sortZ_len, hp.length_eq]
  rw [hl] at hrow
  exact ZRow.low (show ZRow w' _ v _ from hrow) (by simp)
set_option maxRecDepth 100000 in
set_option maxHeartbeats 1000000 in
theorem theights_any (base q m : Nat) (span : Int) (jp : Value) (T : List (Int × Tr)) (hTl : T.length ≤ 100000) (w : World) (hM : TrM w base m T) (B : Blk w q #[.map (some m), .int .i64 (span), jp]) :
    Calls Tryz.prog 29 #[.pointer (some ⟨q, 0, none⟩)] w fun e w' => ∃ v, e = .returned v ∧ ZRow w' w.heap.size v (sortZ (hts T)) ∧ Below w.heap.size w w' := by
  obtain ⟨D, ho, hD⟩ := hM
  have hkb := keysT_any (some m)
  have hso := sortedT_any m _ D hT w ho (by rw [hD.size]; omega)
  rw [show sortZ (intKeys D) = sortZ (hts T) from (mergeSort_of_perm_i (keys_permI ho hD.nodup hD.has)).symm] at hso
  generalize sortZ (hts T) = L at *
  obtain ⟨b1, b2, b3⟩ := id B
  clear B ho hD
  go_enter Tryz.func29, Tryz.ntmps29
  go_wp2_with fail
  refine (hkb _).mono ?_
  rintro e w1 ⟨rfl, rfl⟩
  go_wp2_with fail
  refine hso.mono ?_
  rintro e w2 ⟨v, rfl, hr, hb⟩
  go_wp2_with fail
  go_ret
  exact ⟨v, rfl, hr, (Below.allocS (Below.refl _ _) _).trans hb⟩
end Go.Proofs.YthgjdaomcpinaaaGreatDoor

/- trust.Store.first: the first one of heights that is not stale. The program's walk. Printed by mktfirst.py. -/
set_option linter.unusedSimpArgs false
set_option linter.unusedVariables false
namespace Go.Proofs.YthgjdaomcpinaaaGreatDoor
open Go.RowKit Go.WideMaps Go.Maps Go.Sort Go.Shelf Pl

namespace Pl
/-- What is trusted of a height that is there. -/
def lookK (T : List (Int × Tr)) (k : Int) : Option Tr := (T.find? (fun e => e.1 == k)).map (·.2)
/-- The first one of heights that is not stale. -/
def firstT (T : List (Int × Tr)) (span now : Int) : List Int → Option Tr
  | [] => none
  | k :: r => match lookK T k with
    | none => firstT T span now r
    | some t => if staleT span now t = true then firstT T span now r else some t
/-- Its code. -/
def firstC (o : Option Tr) (l : List Int) : Int := match o with
  | some _ => 0
  | none => if l = [] then 5 else 330
end Pl
theorem lookK_in {T : List (Int × Tr)} (hn : (hts T).Nodup) {k : Int} {t : Tr} (h : (k, t) ∈ T) : lookK T k = some t := by
  induction T with
  | nil => cases h
  | cons x r ih =>
    unfold hts at hn
    rw [List.map_cons, List.nodup_cons] at hn
    unfold lookK
    rw [List.find?_cons]
    rcases List.mem_cons.1 h with e | e
    · rw [← e]
      simp
    · have hne : (x.1 == k) = false := by
        rw [beq_eq_false_iff_ne]
        intro e2
        exact hn.1 (List.mem_map.2 ⟨_, e, e2.symm⟩)
      rw [hne]
      exact ih hn.2 e
theorem firstT_stale {T : List (Int × Tr)} {span now k : Int} {r : List Int} {t : Tr} (h : lookK T k = some t) (hs : staleT span now t = true) : firstT T span now (k :: r) = firstT T span now r := by
  rw [firstT, h]
  simp only
  rw [if_pos hs]
theorem firstT_fresh {T : List (Int × Tr)} {span now k : Int} {r : List Int} {t : Tr} (h : lookK T k = some t) (hs : staleT span now t = false) : firstT T span now (k :: r) = some t := by
  rw [firstT, h]
  simp only
  rw [if_neg (by rw [hs]; decide)]
/-- What a store has is small, and stands at its height. -/
def TrSm (T : List (Int × Tr)) : Prop := ∀ e ∈ T, e.2.head.skips.length ≤ 1000000 ∧ e.2.set.length ≤ 1000000 ∧ -9223372036854775808 ≤ e.1 ∧ e.1 ≤ 9223372036854775807
theorem dropZ (l : List Int) (i : Nat) (hi : i < l.length) : l.drop i = l.getD i 0 :: l.drop (i + 1) := by
  rw [List.drop_eq_getElem_cons hi, List.getD_eq_getElem?_getD, List.getElem?_eq_getElem hi]
  rfl
theorem hts_mem {T : List (Int × Tr)} {k : Int} (h : k ∈ hts T) : ∃ t, (k, t) ∈ T := by
  obtain ⟨e, he, e1⟩ := List.mem_map.1 h
  exact ⟨e.2, by rw [← e1]; exact he⟩
/-- v is what is told of one that is trusted, or of none. -/
def FV (w : World) (b : Nat) (v : Value) (o : Option Tr) : Prop := match o with
  | some t => TRow w b v t
  | none => v = nilT
set_option maxRecDepth 100000 in
set_option maxHeartbeats 8000000 in
theorem tfirst_any (base q m : Nat) (span : Int) (jp : Value) (T : List (Int × Tr)) (v : Value) (l : List Int) (now : Int) (hsm : TrSm T) (hl : ∀ k ∈ l, k ∈ hts T) (hn : -9223372036854775808 ≤ now ∧ now ≤ 9223372036854775807) (hs : 0 ≤ span ∧ span ≤ 1099511627776) (w : World) (hM : TrM w base m T) (B : Blk w q #[.map (some m), .int .i64 (span), jp]) (hv : IS w v l) :
    Calls Tryz.prog 79 #[.pointer (some ⟨q, 0, none⟩), v, .int .i64 (now)] w fun e w' => ∃ v', e = .returned (.tuple #[v', .int .i64 (firstC (firstT T span now l) l)]) ∧ FV w' w.heap.size v' (firstT T span now l) ∧ Below w.heap.size w w' := by
  have Z0 : Blk (w.alloc (.cells #[.int .i64 (0), .int .i64 (0), .int .i64 (0), .bool false, .string ⟨List.toArray ([])⟩, .string ⟨List.toArray ([])⟩, .string ⟨List.toArray ([])⟩, .string ⟨List.toArray ([])⟩, .string ⟨List.toArray ([])⟩, .string ⟨List.toArray ([])⟩, .slice none 0 0, .slice none 0 0, .int .i64 (0)] 27)) w.heap.size (List.toArray [.int .i64 (0), .int .i64 (0), .int .i64 (0), .bool false, .string ⟨List.toArray ([])⟩, .string ⟨List.toArray ([])⟩, .string ⟨List.toArray ([])⟩, .string ⟨List.toArray ([])⟩, .string ⟨List.toArray ([])⟩, .string ⟨List.toArray ([])⟩, .slice none 0 0, .slice none 0 0, .int .i64 (0)]) := Blk.new _ _ _
  have hb0 : Below w.heap.size w (w.alloc (.cells #[.int .i64 (0), .int .i64 (0), .int .i64 (0), .bool false, .string ⟨List.toArray ([])⟩, .string ⟨List.toArray ([])⟩, .string ⟨List.toArray ([])⟩, .string ⟨List.toArray ([])⟩, .string ⟨List.toArray ([])⟩, .string ⟨List.toArray ([])⟩, .slice none 0 0, .slice none 0 0, .int .i64 (0)] 27)) := Below.allocS (Below.refl _ _) _
  obtain ⟨a, cap, rfl⟩ := hv.form
  have hlm := hv.small
  have HV := Lib.hid hv
  have HM := Lib.hid hM
  have HB := Lib.hid B
  have HL := Lib.hid hl
  have HSM := Lib.hid hsm
  clear hv hM B hl hsm
  go_enter Tryz.func79, Tryz.ntmps79
  go_wp2_with fail
  go_loopw [8, 15] (fun s8 s15 wr => ∃ (i : Nat) (c : Int), i ≤ l.length ∧ s15 = .int .i64 (i) ∧ s8 = .int .i64 (c) ∧ Hid (c = if i = 0 then 5 else 330) ∧ Hid (firstT T span now l = firstT T span now (l.drop i)) ∧ Blk wr w.heap.size (List.toArray [.int .i64 (0), .int .i64 (0), .int .i64 (0), .bool false, .string ⟨List.toArray ([])⟩, .string ⟨List.toArray ([])⟩, .string ⟨List.toArray ([])⟩, .string ⟨List.toArray ([])⟩, .string ⟨List.toArray ([])⟩, .string ⟨List.toArray ([])⟩, .slice none 0 0, .slice none 0 0, .int .i64 (0)]) ∧ Below w.heap.size w wr) (fun _ s15 _ => l.length - (intOf s15).toNat)
  case atStart => exact ⟨0, 5, by omega, rfl, rfl, Lib.hid rfl, Lib.hid (by rw [List.drop_zero]), Z0, hb0⟩
  case round =>
    clear Z0 hb0
    obtain ⟨i, c, hi, rfl, rfl, HCI, HF, Z, hb⟩ := hrel
    by_cases hlt : i < l.length
    · have hbd : 0 ≤ (i : Int) ∧ (i : Int) < (l.length : Int) := by omega
      obtain ⟨g, off, e1, hg, c1⟩ := (HV.out.keep hb).at' i hlt
      subst e1
      have HDR := Lib.hid (dropZ l i hlt)
      have hkl : l.getD i 0 ∈ l := by rw [List.getD_eq_getElem?_getD, List.getElem?_eq_getElem hlt]; exact List.getElem_mem _
      have hk := HL.out _ hkl
      generalize l.getD i 0 = k at *
      obtain ⟨t, ht⟩ := hts_mem hk
      obtain ⟨l1, l2, l3, l4⟩ := HSM.out _ ht
      simp only at l1 l2 l3 l4
      have HLK := Lib.hid (lookK_in HM.out.nodup ht)
      have q1 := fun (W : World) (hb : Below w.heap.size w W) => tat_any base q m span jp T k now t ⟨l3, l4⟩ hn hs ht l1 l2 W (HM.out.keep hb) (HB.out.keep hb)
      clear hk hkl ht
      have HST1 := Lib.hid (fun h => firstT_stale (T := T) (span := span) (now := now) (r := l.drop (i + 1)) HLK.out h)
      have HST2 := Lib.hid (fun h => firstT_fresh (T := T) (span := span) (now := now) (r := l.drop (i + 1)) HLK.out h)
      generalize staleT span now t = st at *
      go_wp2_with fail
      refine (q1 _ hb).mono ?_
      rintro e w1 ⟨v1, rfl, hv1, hbx⟩
      have Z1 := Z.keep hbx
      have hb1 := hb.trans (hbx.mono hb.size)
      have hszb := hb.size
      have hzl := Z.lt
      have hszx := hbx.size
      clear q1 hbx hb Z
      cases st
      · have hv1 : TRow w1 _ v1 t := hv1
        obtain ⟨⟨a1, a2, a3, lb, pa, sr, rc, tx, me, ne, K⟩, L, ta⟩ := t
        obtain ⟨sk, ms, rfl, r1, r2⟩ := hv1
        simp only at r1 r2
        obtain ⟨ka, kc, rfl⟩ := r1.form
        obtain ⟨ma, mc, rfl⟩ := r2.form
        have HR : Hid (firstT T span now l = some ⟨⟨a1, a2, a3, lb, pa, sr, rc, tx, me, ne, K⟩, L, ta⟩) := Lib.hid (by rw [HF.out, HDR.out]; exact HST2.out rfl)
        clear HF HDR HST1 HST2 HLK
        go_wp2_with (first | (refine wpList_rowStore row_trust rfl rfl (.tmp 11) (.tmp 24) rfl rfl rfl (vs := [.int .i64 (a1), .int .i64 (a2), .int .i64 (a3), .bool lb, .string ⟨List.toArray (pa)⟩, .string ⟨List.toArray (sr)⟩, .string ⟨List.toArray (rc)⟩, .string ⟨List.toArray (tx)⟩, .string ⟨List.toArray (me)⟩, .string ⟨List.toArray (ne)⟩, .slice ka K.length kc, .slice ma L.length mc, .int .i64 (ta)]) rfl (by simp [Value.oneCell']) (us := [.int .i64 (0), .int .i64 (0), .int .i64 (0), .bool false, .string ⟨List.toArray ([])⟩, .string ⟨List.toArray ([])⟩, .string ⟨List.toArray ([])⟩, .string ⟨List.toArray ([])⟩, .string ⟨List.toArray ([])⟩, .string ⟨List.toArray ([])⟩, .slice none 0 0, .slice none 0 0, .int .i64 (0)]) rfl (Blk.new' (by simp)) ?_; intro w2 N2 m2; have hbn := Below.mod (Below.allocS (Below.refl w1.heap.size w1) (.cells #[.int .i64 (0), .int .i64 (0), .int .i64 (0), .bool false, .string ⟨List.toArray ([])⟩, .string ⟨List.toArray ([])⟩, .string ⟨List.toArray ([])⟩, .string ⟨List.toArray ([])⟩, .string ⟨List.toArray ([])⟩, .string ⟨List.toArray ([])⟩, .slice none 0 0, .slice none 0 0, .int .i64 (0)] 27)) m2 (by simp) (by simp); have Z2 := Z1.keep hbn; have hb2 := hb1.trans (hbn.mono hb1.size); have y1 := r1.keep hbn; have y2 := r2.keep hbn) | (refine wpList_rowLoad row_trust rfl (.tmp 11) rfl rfl (vs := [.int .i64 (a1), .int .i64 (a2), .int .i64 (a3), .bool lb, .string ⟨List.toArray (pa)⟩, .string ⟨List.toArray (sr)⟩, .string ⟨List.toArray (rc)⟩, .string ⟨List.toArray (tx)⟩, .string ⟨List.toArray (me)⟩, .string ⟨List.toArray (ne)⟩, .slice ka K.length kc, .slice ma L.length mc, .int .i64 (ta)]) rfl N2 ?_) | (refine wpList_rowStore row_trust rfl rfl (.tmp 6) (.tmp 28) rfl rfl rfl (vs := [.int .i64 (a1), .int .i64 (a2), .int .i64 (a3), .bool lb, .string ⟨List.toArray (pa)⟩, .string ⟨List.toArray (sr)⟩, .string ⟨List.toArray (rc)⟩, .string ⟨List.toArray (tx)⟩, .string ⟨List.toArray (me)⟩, .string ⟨List.toArray (ne)⟩, .slice ka K.length kc, .slice ma L.length mc, .int .i64 (ta)]) rfl (by simp [Value.oneCell']) (us := [.int .i64 (0), .int .i64 (0), .int .i64 (0), .bool false, .string ⟨List.toArray ([])⟩, .string ⟨List.toArray ([])⟩, .string ⟨List.toArray ([])⟩, .string ⟨List.toArray ([])⟩, .string ⟨List.toArray ([])⟩, .string ⟨List.toArray ([])⟩, .slice none 0 0, .slice none 0 0, .int .i64 (0)]) rfl Z2 ?_; intro w5 N5 m5))
        have hld := row_loadVar row_trust w5 (vs := [.int .i64 (a1), .int .i64 (a2), .int .i64 (a3), .bool lb, .string ⟨List.toArray (pa)⟩, .string ⟨List.toArray (sr)⟩, .string ⟨List.toArray (rc)⟩, .string ⟨List.toArray (tx)⟩, .string ⟨List.toArray (me)⟩, .string ⟨List.toArray (ne)⟩, .slice ka K.length kc, .slice ma L.length mc, .int .i64 (ta)]) rfl N5
        refine bodyPost_ret (results_cell_tmp2 rfl _ _ _ _ rfl hld) rfl ?_
        rw [HR.out]
        exact ⟨_, rfl, show TRow _ _ _ _ from ⟨_, _, rfl, SRow.low (y1.mod m5 hzl) (by omega), MRow.low (y2.mod m5 hzl) (by omega)⟩, Below.mod hb2 m5 hb2.size (by simp)⟩
      · have hv1 : v1 = nilT := hv1
        subst hv1
        have HR : Hid (firstT T span now l = firstT T span now (l.drop (i + 1))) := Lib.hid (by rw [HF.out, HDR.out]; exact HST1.out rfl)
        clear HF HDR HST1 HST2 HLK
        go_wp2_with (first | (refine wpList_rowStore row_trust rfl rfl (.tmp 11) (.tmp 24) rfl rfl rfl (vs := [.int .i64 (0), .int .i64 (0), .int .i64 (0), .bool false, .string ⟨List.toArray ([])⟩, .string ⟨List.toArray ([])⟩, .string ⟨List.toArray ([])⟩, .string ⟨List.toArray ([])⟩, .string ⟨List.toArray ([])⟩, .string ⟨List.toArray ([])⟩, .slice none 0 0, .slice none 0 0, .int .i64 (0)]) rfl (by simp [Value.oneCell']) (us := [.int .i64 (0), .int .i64 (0), .int .i64 (0), .bool false, .string ⟨List.toArray ([])⟩, .string ⟨List.toArray ([])⟩, .string ⟨List.toArray ([])⟩, .string ⟨List.toArray ([])⟩, .string ⟨List.toArray ([])⟩, .string ⟨List.toArray ([])⟩, .slice none 0 0, .slice none 0 0, .int .i64 (0)]) rfl (Blk.new' (by simp)) ?_; intro w2 N2 m2; have hbn := Below.mod (Below.allocS (Below.refl w1.heap.size w1) (.cells #[.int .i64 (0), .int .i64 (0), .int .i64 (0), .bool false, .string ⟨List.toArray ([])⟩, .string ⟨List.toArray ([])⟩, .string ⟨List.toArray ([])⟩, .string ⟨List.toArray ([])⟩, .string ⟨List.toArray ([])⟩, .string ⟨List.toArray ([])⟩, .slice none 0 0, .slice none 0 0, .int .i64 (0)] 27)) m2 (by simp) (by simp)))
        exact ⟨⟨i + 1, 330, by omega, by go_num, rfl, Lib.hid (by rw [if_neg (by omega)]), HR, Z1.keep hbn, hb1.trans (hbn.mono hb1.size)⟩, by simp [intOf]; omega⟩
    · have hil : i = l.length := by omega
      subst hil
      have HR : Hid (firstT T span now l = none) := Lib.hid (by rw [HF.out, List.drop_length]; rfl)
      have HC : Hid (firstC none l = if l.length = 0 then 5 else 330) := Lib.hid (by cases l <;> rfl)
      clear HF
      go_wp2_with (first | (refine wpList_rowStore row_trust rfl rfl (.tmp 6) (.tmp 32) rfl rfl rfl (vs := [.int .i64 (0), .int .i64 (0), .int .i64 (0), .bool false, .string ⟨List.toArray ([])⟩, .string ⟨List.toArray ([])⟩, .string ⟨List.toArray ([])⟩, .string ⟨List.toArray ([])⟩, .string ⟨List.toArray ([])⟩, .string ⟨List.toArray ([])⟩, .slice none 0 0, .slice none 0 0, .int .i64 (0)]) rfl (by simp [Value.oneCell']) (us := [.int .i64 (0), .int .i64 (0), .int .i64 (0), .bool false, .string ⟨List.toArray ([])⟩, .string ⟨List.toArray ([])⟩, .string ⟨List.toArray ([])⟩, .string ⟨List.toArray ([])⟩, .string ⟨List.toArray ([])⟩, .string ⟨List.toArray ([])⟩, .slice none 0 0, .slice none 0 0, .int .i64 (0)]) rfl Z ?_; intro w5 N5 m5))
      have hld := row_loadVar row_trust w5 (vs := [.int .i64 (0), .int .i64 (0), .int .i64 (0), .bool false, .string ⟨List.toArray ([])⟩, .string ⟨List.toArray ([])⟩, .string ⟨List.toArray ([])⟩, .string ⟨List.toArray ([])⟩, .string ⟨List.toArray ([])⟩, .string ⟨List.toArray ([])⟩, .slice none 0 0, .slice none 0 0, .int .i64 (0)]) rfl N5
      refine bodyPost_ret (results_cell_tmp2 rfl _ _ _ _ rfl hld) rfl ?_
      rw [HR.out, HC.out, ← HCI.out]
      refine ⟨nilT, rfl, ?_, Below.mod hb m5 hb.size (by simp)⟩
      rfl
end Go.Proofs.YthgjdaomcpinaaaGreatDoor

/- The laws of the library that the sorts lean on, at this program. -/
set_option linter.unusedVariables false
namespace Go.Proofs.YthgjdaomcpinaaaGreatDoor
open Go.Shelf

def laysRev_ren : Go.Shelf.Ren := ⟨fun | 112 => 77 | n => n, fun | 28 => 51 | 3 => 3 | 4 => 4 | 0 => 0 | n => n, fun | n => n⟩
theorem laysRev : Go.Proofs.Lays.n112 Tryz.prog laysRev_ren := {
  mixed := by kernel_rfl
  f112 := Tryz.func77.trans (congrArg some (by kernel_rfl))
  t0 := Tryz.underlying0
  a0 := Tryz.isAgg0
  z0 := Tryz.sizeOf0
  v0 := Tryz.zeroValue0
  t3 := Tryz.underlying3
  a3 := Tryz.isAgg3
  z3 := Tryz.sizeOf3
  v3 := Tryz.zeroValue3
  t4 := Tryz.underlying4
  a4 := Tryz.isAgg4
  z4 := Tryz.sizeOf4
  v4 := Tryz.zeroValue4
  t28 := Tryz.underlying51
  a28 := Tryz.isAgg51
  z28 := Tryz.sizeOf51
  v28 := Tryz.zeroValue51 }

end Go.Proofs.YthgjdaomcpinaaaGreatDoor

/- The laws of the library that the sorts lean on, at this program. -/
set_option linter.unusedVariables false
namespace Go.Proofs.YthgjdaomcpinaaaGreatDoor
open Go.Shelf

def laysBin_ren : Go.Shelf.Ren := ⟨fun | 25 => 80 | 31 => 138 | 32 => 139 | 37 => 165 | n => n, fun | 22 => 51 | 3 => 3 | 4 => 4 | 40 => 170 | 0 => 0 | n => n, fun | n => n⟩
theorem laysBin : Go.Proofs.Lays2.n25 Tryz.prog laysBin_ren := {
  mixed := by kernel_rfl
  f25 := Tryz.func80.trans (congrArg some (by kernel_rfl))
  f31 := Tryz.func138.trans (congrArg some (by kernel_rfl))
  f32 := Tryz.func139.trans (congrArg some (by kernel_rfl))
  f37 := Tryz.func165.trans (congrArg some (by kernel_rfl))
  t0 := Tryz.underlying0
  a0 := Tryz.isAgg0
  z0 := Tryz.sizeOf0
  v0 := Tryz.zeroValue0
  t3 := Tryz.underlying3
  a3 := Tryz.isAgg3
  z3 := Tryz.sizeOf3
  v3 := Tryz.zeroValue3
  t4 := Tryz.underlying4
  a4 := Tryz.isAgg4
  z4 := Tryz.sizeOf4
  v4 := Tryz.zeroValue4
  t22 := Tryz.underlying51
  a22 := Tryz.isAgg51
  z22 := Tryz.sizeOf51
  v22 := Tryz.zeroValue51
  t40 := Tryz.underlying170
  a40 := Tryz.isAgg170
  z40 := Tryz.sizeOf170
  v40 := Tryz.zeroValue170 }

end Go.Proofs.YthgjdaomcpinaaaGreatDoor
