/- TPut, TGet, Shelf4, Members, Code. -/
import Derived.Test.YtjppbomngnomhaaGreatDoorProg
import Derived.Shelf.SlIter.Nil
import Derived.Shelf.SortM.Plain
import Derived.Shelf.SortM.SortNone
import Derived.Test.YtjppbomngnomhaaGreatDoorMv10
set_option linter.unnecessarySimpa false
set_option linter.unusedSimpArgs false
set_option linter.unusedVariables false
set_option maxRecDepth 100000
set_option maxHeartbeats 32000000
namespace Go.Proofs.YtjppbomngnomhaaGreatDoor
open Go.RowKit Pl
def NoP (B : Nat) (w : World) (c : Int) (e : Ending) (w' : World) : Prop := e = .returned (.tuple #[.pointer none, .int .i64 c]) ∧ Below B w w'
def YesP (B : Nat) (w : World) (t : Tri) (e : Ending) (w' : World) : Prop := ∃ pt, e = .returned (.tuple #[.pointer (some ⟨pt, 0, none⟩), .int .i64 0]) ∧ Below B w w' ∧ TAt w' pt t
theorem tput_no1 (pt : Nat) (k v : Bs) (hk : k.length ≤ 9223372036854775807) (h : keyB k = false) (w : World) :
  Calls Tryz.prog 28 #[.pointer (some ⟨pt, 0, none⟩), .string ⟨List.toArray k⟩, .string ⟨List.toArray v⟩] w (NoP w.heap.size w 1) := by
 have HK := Lib.hid (tkeyed_any k hk w)
 rw [h] at HK
 clear h
 go_enter Tryz.func28, Tryz.ntmps28
 go_wp2_with fail
 refine HK.out.mono ?_
 rintro e w1 ⟨rfl, rfl⟩
 go_wp2_with fail
 go_ret2
 exact ⟨rfl, Below.refl _ _⟩
theorem tput_no2 (pt : Nat) (k v : Bs) (hk : k.length ≤ 9223372036854775807) (hvl : v.length ≤ 9223372036854775807) (h : keyB k = true) (hv : v.length < 1 ∨ 32 < v.length) (w : World) :
  Calls Tryz.prog 28 #[.pointer (some ⟨pt, 0, none⟩), .string ⟨List.toArray k⟩, .string ⟨List.toArray v⟩] w (NoP w.heap.size w 2) := by
 have HK := Lib.hid (tkeyed_any k hk w)
 rw [h] at HK
 clear h
 by_cases h0 : v = []
 ·subst h0
  clear hv
  go_enter Tryz.func28, Tryz.ntmps28
  go_wp2_with fail
  refine HK.out.mono ?_
  rintro e w1 ⟨rfl, rfl⟩
  go_wp2_with fail
  go_ret2
  exact ⟨rfl, Below.refl _ _⟩
 ·have hl : 1 ≤ v.length := by
   rcases Nat.eq_zero_or_pos v.length with h | h
   ·exact absurd (List.length_eq_zero_iff.1 h) h0
   ·exact h
  have d : decide ((32 : Int) < (v.length : Int)) = true := by simp only [decide_eq_true_eq]; omega
  have he : v.isEmpty = false := by simpa using h0
  clear h0 hv hl
  go_enter Tryz.func28, Tryz.ntmps28
  go_wp2_with fail
  refine HK.out.mono ?_
  rintro e w1 ⟨rfl, rfl⟩
  go_wp2_with fail
  go_ret2
  exact ⟨rfl, Below.refl _ _⟩
theorem tput_no3 (pt : Nat) (t : Tri) (L : List It) (k v : Bs) (h : keyB k = true) (hv : 1 ≤ v.length ∧ v.length ≤ 32) (hR : RepT t L) (hL : L.length ≤ 1024) (hh : hasK k L = false) (hm : 1024 ≤ L.length) (w : World) (hT : TAt w pt t) :
  Calls Tryz.prog 28 #[.pointer (some ⟨pt, 0, none⟩), .string ⟨List.toArray k⟩, .string ⟨List.toArray v⟩] w (NoP w.heap.size w 2) := by
 have hkl : 1 ≤ k.length ∧ k.length ≤ 8 := by simpa [keyB] using h
 have HK := Lib.hid (tkeyed_any k (by omega) w)
 rw [h] at HK
 have hlen : ∀ W, Below w.heap.size w W → Calls Tryz.prog 46 #[.pointer (some ⟨pt, 0, none⟩)] W fun e w' => e = .returned (.int .i64 ((rp t).length)) ∧ W = w' := fun W hb => tlen_any pt t (by rw [hR.len]; omega) W (hT.keep hb)
 rw [hR.len, show L.length = 1024 from by omega] at hlen
 have hlk : Pl.look t (ofP k) = [] := (look_has hR k).2 hh
 have hget : ∀ kp W, KAt W t kp → Calls Tryz.prog 47 #[ptV kp, .string ⟨List.toArray (ofP k)⟩] W fun e w' => e = .returned (.string ⟨List.toArray []⟩) ∧ ∃ n, w' = W.drewN n := fun kp W hK => by
  have := get_any t 16 (by omega) kp (ofP k) (by rw [ofP_len]; omega) (ofP_fit k) hR.ok W hK
  rwa [hlk] at this
 have HLN := Lib.hid hlen
 have HGT := Lib.hid hget
 have HOF := Lib.hid (nof_any k (by omega))
 have HT := Lib.hid hT
 have d : decide ((32 : Int) < (v.length : Int)) = false := by simp only [decide_eq_false_iff_not]; omega
 have he : v.isEmpty = false := by cases v <;> simp at hv ⊢
 clear h hR hL hh hm hT hlen hlk hget hv
 generalize ofP k = q at *
 go_enter Tryz.func28, Tryz.ntmps28
 go_wp2_with fail
 refine HK.out.mono ?_
 rintro e w1 ⟨rfl, rfl⟩
 go_wp2_with fail
 refine (HOF.out _).mono ?_
 rintro e w2 ⟨rfl, hb2⟩
 obtain ⟨kp, hB, hKA⟩ := HT.out.keep hb2
 have c0 : w2.cell? ⟨pt, 0, none⟩ = some (ptV kp) := hB.cell 0
 clear hB
 go_wp2_with fail
 refine (HLN.out _ hb2).mono ?_
 rintro e w3 ⟨rfl, rfl⟩
 go_wp2_with fail
 refine (HGT.out kp _ hKA).mono ?_
 rintro e w4 ⟨rfl, n4, rfl⟩
 go_wp2_with fail
 go_ret2
 exact ⟨rfl, below_drewN hb2 _⟩
theorem tput_yes (pt : Nat) (t : Tri) (L : List It) (k v : Bs) (h : keyB k = true) (hv : 1 ≤ v.length ∧ v.length ≤ 32) (hR : RepT t L) (hL : L.length ≤ 1024) (hh : hasK k L = true ∨ L.length < 1024) (w : World) (hk : KT w) (hT : TAt w pt t) :
  Calls Tryz.prog 28 #[.pointer (some ⟨pt, 0, none⟩), .string ⟨List.toArray k⟩, .string ⟨List.toArray v⟩] w (YesP w.heap.size w (putT t (ofP k) v)) := by
 have hkl : 1 ≤ k.length ∧ k.length ≤ 8 := by simpa [keyB] using h
 have HK := Lib.hid (tkeyed_any k (by omega) w)
 rw [h] at HK
 have hlen : ∀ W, Below w.heap.size w W → Calls Tryz.prog 46 #[.pointer (some ⟨pt, 0, none⟩)] W fun e w' => e = .returned (.int .i64 ((rp t).length)) ∧ W = w' := fun W hb => tlen_any pt t (by rw [hR.len]; omega) W (hT.keep hb)
 rw [hR.len] at hlen
 have HLN := Lib.hid hlen
 have HGT := Lib.hid (fun kp W hK => get_any t 16 (by omega) kp (ofP k) (by rw [ofP_len]; omega) (ofP_fit k) hR.ok W hK)
 have HPU := Lib.hid (fun kp W (hk : KT W) hK => put_any v t 16 (by omega) (ofP k) (by rw [ofP_len]; omega) (ofP_fit k) hR.ok kp W hk hK)
 have HOF := Lib.hid (nof_any k (by omega))
 have HT := Lib.hid hT
 have HKT := Lib.hid hk
 have d : decide ((32 : Int) < (v.length : Int)) = false := by simp only [decide_eq_false_iff_not]; omega
 have he : v.isEmpty = false := by cases v <;> simp at hv ⊢
 have HNE := Lib.hid (look_has hR k)
 have HRL := Lib.hid hR.len
 clear h hT hlen hv hk hR
 generalize putT t (ofP k) v = t2 at *
 generalize Pl.look t (ofP k) = lk at *
 generalize ofP k = q at *
 by_cases hm : L.length < 1024
 ·have d2 : decide ((1024 : Int) ≤ (L.length : Int)) = false := by simp only [decide_eq_false_iff_not]; omega
  clear hh hm
  go_enter Tryz.func28, Tryz.ntmps28
  go_wp2_with fail
  refine HK.out.mono ?_
  rintro e w1 ⟨rfl, rfl⟩
  go_wp2_with fail
  refine (HOF.out _).mono ?_
  rintro e w2 ⟨rfl, hb2⟩
  obtain ⟨kp, hB, hKA⟩ := HT.out.keep hb2
  have c0 : w2.cell? ⟨pt, 0, none⟩ = some (ptV kp) := hB.cell 0
  clear hB
  go_wp2_with fail
  refine (HLN.out _ hb2).mono ?_
  rintro e w3 ⟨rfl, rfl⟩
  go_wp2_with fail
  refine (HPU.out kp _ (HKT.out.keep hb2) hKA).mono ?_
  rintro e w4 ⟨b4, rfl, hb4, hK4⟩
  go_wp2_with fail
  go_ret2
  exact ⟨_, rfl, Below.allocS (hb2.trans (hb4.mono hb2.size)) _, some b4, Blk.new _ _ _, hK4.keep (Below.allocS (Below.refl _ _) _)⟩
 ·have d2 : decide ((1024 : Int) ≤ (L.length : Int)) = true := by simp only [decide_eq_true_eq]; omega
  have hlk : lk ≠ [] := fun e => by
   have h1 := HNE.out.1 e
   rcases hh with h2 | h2
   ·rw [h1] at h2; cases h2
   ·exact hm h2
  have hle : lk.isEmpty = false := by simpa using hlk
  clear hh hm hlk
  go_enter Tryz.func28, Tryz.ntmps28
  go_wp2_with fail
  refine HK.out.mono ?_
  rintro e w1 ⟨rfl, rfl⟩
  go_wp2_with fail
  refine (HOF.out _).mono ?_
  rintro e w2 ⟨rfl, hb2⟩
  obtain ⟨kp, hB, hKA⟩ := HT.out.keep hb2
  have c0 : w2.cell? ⟨pt, 0, none⟩ = some (ptV kp) := hB.cell 0
  clear hB
  go_wp2_with fail
  refine (HLN.out _ hb2).mono ?_
  rintro e w3 ⟨rfl, rfl⟩
  go_wp2_with fail
  refine (HGT.out kp _ hKA).mono ?_
  rintro e w4 ⟨rfl, n4, rfl⟩
  go_wp2_with fail
  refine (HPU.out kp _ (HKT.out.keep (below_drewN hb2 _)) (hKA.keep (below_drewN (Below.refl _ _) _))).mono ?_
  rintro e w5 ⟨b4, rfl, hb4, hK4⟩
  go_wp2_with fail
  go_ret2
  exact ⟨_, rfl, Below.allocS ((below_drewN hb2 n4).trans (hb4.mono hb2.size)) _, some b4, Blk.new _ _ _, hK4.keep (Below.allocS (Below.refl _ _) _)⟩
end Go.Proofs.YtjppbomngnomhaaGreatDoor
namespace Go.Proofs.YtjppbomngnomhaaGreatDoor
open Go.RowKit Pl
def getK (t : Tri) (k : Bs) : Bs × Int := if keyB k = true then (if Pl.look t (ofP k) = [] then ([], 5) else (Pl.look t (ofP k), 0)) else ([], 1)
theorem getK_no {t : Tri} {k : Bs} (h : keyB k = false) : getK t k = ([], 1) := by unfold getK; rw [if_neg (by rw [h]; simp)]
theorem getK_none {t : Tri} {k : Bs} (h : keyB k = true) (h2 : Pl.look t (ofP k) = []) : getK t k = ([], 5) := by unfold getK; rw [if_pos h, if_pos h2]
theorem getK_some {t : Tri} {k : Bs} (h : keyB k = true) (h2 : Pl.look t (ofP k) ≠ []) : getK t k = (Pl.look t (ofP k), 0) := by unfold getK; rw [if_pos h, if_neg h2]
theorem tget_any (pt : Nat) (t : Tri) (ho : okT t 16) (k : Bs) (hk : k.length ≤ 9223372036854775807) (w : World) (hT : TAt w pt t) :
  Calls Tryz.prog 42 #[.pointer (some ⟨pt, 0, none⟩), .string ⟨List.toArray k⟩] w fun e w' => e = .returned (.tuple #[.string ⟨List.toArray ((getK t k).1)⟩, .int .i64 ((getK t k).2)]) ∧ Below w.heap.size w w' := by
 have HK := Lib.hid (tkeyed_any k hk w)
 cases hb : keyB k
 ·rw [getK_no hb]
  rw [hb] at HK
  clear hT hb
  go_enter Tryz.func42, Tryz.ntmps42
  go_wp2_with fail
  refine HK.out.mono ?_
  rintro e w1 ⟨rfl, rfl⟩
  go_wp2_with fail
  go_ret2
  exact ⟨rfl, Below.refl _ _⟩
 ·rw [hb] at HK
  have hkl : 1 ≤ k.length ∧ k.length ≤ 8 := by simpa [keyB] using hb
  have HGT := Lib.hid (fun kp W hK => get_any t 16 (by omega) kp (ofP k) (by rw [ofP_len]; omega) (ofP_fit k) ho W hK)
  have HOF := Lib.hid (nof_any k (by omega))
  obtain ⟨kp, hB, hKA⟩ := hT
  have c0 : w.cell? ⟨pt, 0, none⟩ = some (ptV kp) := hB.cell 0
  have HKA := Lib.hid hKA
  have HN := Lib.hid (getK_none (t := t) hb)
  have HS := Lib.hid (getK_some (t := t) hb)
  clear hB hKA hb hkl
  generalize getK t k = g at *
  generalize Pl.look t (ofP k) = lk at *
  generalize ofP k = q at *
  go_enter Tryz.func42, Tryz.ntmps42
  go_wp2_with fail
  refine HK.out.mono ?_
  rintro e w1 ⟨rfl, rfl⟩
  go_wp2_with fail
  refine wpH_start (by kernel_rfl) (fun hS => ?_)
  (refine hP 0 ?_ ⟨some 10, .move (.tmp 0), 40, "", #[], none⟩ hS ?_ ?_; rotate_left; focus (intro w; go_simp; try with_reducible rfl))
  try simp only [pna, pnb, pnc, pnd, pne]
  (refine hP 1 ?_ ⟨some 11, .nilCheck (.tmp 10), 0, "", #[], none⟩ hS ?_ ?_; rotate_left; focus (intro w; go_simp; try with_reducible rfl))
  try simp only [pna, pnb, pnc, pnd, pne]
  (refine hP 2 ?_ ⟨some 12, .fieldAddr 68 (.tmp 11) 0, 0, "", #[], none⟩ hS ?_ ?_; rotate_left; focus (intro w; go_simp; try with_reducible rfl))
  try simp only [pna, pnb, pnc, pnd, pne]
  refine wpH_load 3 (ptV kp) (oi := { dst := some 13, op := Op.load 66 (Operand.tmp 12), type := 66, pos := "trie.go:35", after := #[{ on := 2, ground := Ground.data }], guard := none }) rfl (by kernel_rfl) (by kernel_rfl) (by kernel_rfl) (by rfl) hS (fun _ _ _ h => h) (fun w' hb => (by have c := keepC hb c0; go_simp; try rfl)) ?_
  try simp only [pna, pnb, pnc, pnd, pne]
  (refine hP 4 ?_ ⟨some 14, .move (.tmp 1), 9, "", #[], none⟩ hS ?_ ?_; rotate_left; focus (intro w; go_simp; try with_reducible rfl))
  try simp only [pna, pnb, pnc, pnd, pne]
  refine wpH_call 5 (oi := { dst := some 15, op := Op.call { callee := Callee.value (Operand.func 44), args := #[Operand.tmp 14], argTypes := #[9] }, type := 9, pos := "trie.go:35", after := #[{ on := 4, ground := Ground.data }], guard := none }) rfl (by kernel_rfl) (by rfl) (HOF.out _) ?_ ?_
  ·(go_simp; try rfl)
  rintro e w' ⟨rfl, hbx⟩
  refine ⟨_, rfl, hS.trans (hbx.mono hS.size), ?_⟩
  replace hS := hS.trans (hbx.mono hS.size)
  try simp only [pna, pnb, pnc, pnd, pne]
  refine wpH_call 6 (oi := { dst := some 16, op := Op.call { callee := Callee.value (Operand.func 47), args := #[Operand.tmp 13, Operand.tmp 15], argTypes := #[66, 9] }, type := 9, pos := "trie.go:35", after := #[{ on := 3, ground := Ground.data }, { on := 5, ground := Ground.data }, { on := 5, ground := Ground.chain }], guard := none }) rfl (by kernel_rfl) (by rfl) (HGT.out kp _ (HKA.out.keep hS)) ?_ ?_
  ·(go_simp; try rfl)
  rintro e w' ⟨rfl, nn, rfl⟩
  refine ⟨_, rfl, below_drewN hS nn, ?_⟩
  replace hS := below_drewN hS nn
  try simp only [pna, pnb, pnc, pnd, pne]
  (refine hP 7 ?_ ⟨some 6, .assign (.tmp 16), 9, "", #[], none⟩ hS ?_ ?_; rotate_left; focus (intro w; go_simp; try with_reducible rfl))
  try simp only [pna, pnb, pnc, pnd, pne]
  refine wpAnyH_done (by kernel_rfl) ?_ _
  have hb2 := hS
  by_cases hl : lk = []
  ·have he := HN.out hl
   subst hl he
   go_wp2_with fail
   go_ret2
   exact ⟨rfl, hb2⟩
  ·have he := HS.out hl
   subst he
   have h1 : lk.isEmpty = false := by simpa using hl
   have h2 : (lk == []) = false := by simpa using hl
   clear hl
   go_wp2_with fail
   go_ret2
   exact ⟨rfl, hb2⟩
def DelP' (B : Nat) (w : World) (t : Tri) (k : Bs) (e : Ending) (w' : World) : Prop :=
 Below B w w' ∧ (((getK t k).2 ≠ 0 ∧ e = .returned (.tuple #[.pointer none, .int .i64 ((getK t k).2)])) ∨ ((getK t k).2 = 0 ∧ ∃ pt, e = .returned (.tuple #[.pointer (some ⟨pt, 0, none⟩), .int .i64 0]) ∧ TAt w' pt (delT t (ofP k))))
theorem getK_zero {t : Tri} {k : Bs} (h : (getK t k).2 = 0) : keyB k = true ∧ Pl.look t (ofP k) ≠ [] := by
 unfold getK at h
 split at h
 ·rename_i hk
  split at h
  ·cases h
  ·exact ⟨hk, by assumption⟩
 ·cases h
theorem tdel_any (pt : Nat) (t : Tri) (ho : okT t 16) (hc : canT t) (k : Bs) (hk : k.length ≤ 9223372036854775807) (w : World) (hkt : KT w) (hT : TAt w pt t) :
  Calls Tryz.prog 27 #[.pointer (some ⟨pt, 0, none⟩), .string ⟨List.toArray k⟩] w (DelP' w.heap.size w t k) := by
 have HG := Lib.hid (tget_any pt t ho k hk w hT)
 by_cases h0 : (getK t k).2 = 0
 ·obtain ⟨hkb, hlk⟩ := getK_zero h0
  have hkl : 1 ≤ k.length ∧ k.length ≤ 8 := by simpa [keyB] using hkb
  have HP : Hid (∀ e w', (Below w.heap.size w w' ∧ ∃ pt, e = .returned (.tuple #[.pointer (some ⟨pt, 0, none⟩), .int .i64 0]) ∧ TAt w' pt (delT t (ofP k))) → DelP' w.heap.size w t k e w') := Lib.hid (fun e w' h => ⟨h.1, .inr ⟨h0, h.2⟩⟩)
  have HOF := Lib.hid (nof_any k (by omega))
  have HD := Lib.hid (fun p W hk hK => del_any t 16 (by omega) (ofP k) (by rw [ofP_len]; omega) (ofP_fit k) ho hc hlk p W hk hK)
  have HKT := Lib.hid hkt
  have HT := Lib.hid hT
  rw [h0] at HG
  clear hT hkl hlk hkt h0 hkb
  generalize DelP' w.heap.size w t k = Q at *
  generalize delT t (ofP k) = t2 at *
  generalize ofP k = q at *
  generalize (getK t k).1 = g at *
  go_enter Tryz.func27, Tryz.ntmps27
  go_wp2_with fail
  refine HG.out.mono ?_
  rintro e w1 ⟨rfl, hb1⟩
  obtain ⟨kp, hB, hKA⟩ := HT.out.keep hb1
  have c0 : w1.cell? ⟨pt, 0, none⟩ = some (ptV kp) := hB.cell 0
  have HKA := Lib.hid hKA
  have HK1 := Lib.hid (HKT.out.keep hb1)
  clear hB hKA HG
  go_wp2_with fail
  refine wpH_start (by kernel_rfl) (fun hS => ?_)
  (refine hP 0 ?_ ⟨some 17, .move (.tmp 0), 40, "", #[], none⟩ hS ?_ ?_; rotate_left; focus (intro w; go_simp; try with_reducible rfl))
  try simp only [pna, pnb, pnc, pnd, pne]
  (refine hP 1 ?_ ⟨some 18, .nilCheck (.tmp 17), 0, "", #[], none⟩ hS ?_ ?_; rotate_left; focus (intro w; go_simp; try with_reducible rfl))
  try simp only [pna, pnb, pnc, pnd, pne]
  (refine hP 2 ?_ ⟨some 19, .fieldAddr 68 (.tmp 18) 0, 0, "", #[], none⟩ hS ?_ ?_; rotate_left; focus (intro w; go_simp; try with_reducible rfl))
  try simp only [pna, pnb, pnc, pnd, pne]
  refine wpH_load 3 (ptV kp) (oi := { dst := some 20, op := Op.load 66 (Operand.tmp 19), type := 66, pos := "trie.go:62", after := #[{ on := 2, ground := Ground.data }], guard := none }) rfl (by kernel_rfl) (by kernel_rfl) (by kernel_rfl) (by rfl) hS (fun _ _ _ h => h) (fun w' hb => (by have c := keepC hb c0; go_simp; try rfl)) ?_
  try simp only [pna, pnb, pnc, pnd, pne]
  (refine hP 4 ?_ ⟨some 21, .move (.tmp 1), 9, "", #[], none⟩ hS ?_ ?_; rotate_left; focus (intro w; go_simp; try with_reducible rfl))
  try simp only [pna, pnb, pnc, pnd, pne]
  refine wpH_call 5 (oi := { dst := some 22, op := Op.call { callee := Callee.value (Operand.func 44), args := #[Operand.tmp 21], argTypes := #[9] }, type := 9, pos := "trie.go:62", after := #[{ on := 4, ground := Ground.data }], guard := none }) rfl (by kernel_rfl) (by rfl) (HOF.out _) ?_ ?_
  ·(go_simp; try rfl)
  rintro e w' ⟨rfl, hbx⟩
  refine ⟨_, rfl, hS.trans (hbx.mono hS.size), ?_⟩
  replace hS := hS.trans (hbx.mono hS.size)
  try simp only [pna, pnb, pnc, pnd, pne]
  refine wpH_call 6 (oi := { dst := some 23, op := Op.call { callee := Callee.value (Operand.func 43), args := #[Operand.tmp 20, Operand.tmp 22], argTypes := #[66, 9] }, type := 66, pos := "trie.go:62", after := #[{ on := 3, ground := Ground.data }, { on := 5, ground := Ground.data }, { on := 5, ground := Ground.chain }], guard := none }) rfl (by kernel_rfl) (by rfl) (HD.out kp _ (HK1.out.keep hS) (HKA.out.keep hS)) ?_ ?_
  ·(go_simp; try rfl)
  rintro e w' ⟨p3, rfl, hb3, hK3⟩
  refine ⟨_, rfl, hS.trans (hb3.mono hS.size), ?_⟩
  replace hS := hS.trans (hb3.mono hS.size)
  try simp only [pna, pnb, pnc, pnd, pne]
  refine wpH_load 7 (.agg #[ptV p3]) (oi := { dst := some 24, op := Op.build 68 #[(0, Operand.tmp 23)], type := 68, pos := "trie.go:62", after := #[{ on := 6, ground := Ground.data }], guard := none }) rfl (by kernel_rfl) (by kernel_rfl) (by kernel_rfl) (by rfl) hS (fun _ _ _ h => h) (fun w' hb => (by cases p3 <;> simp only [ptV_none, ptV_some] <;> go_simp <;> try rfl)) ?_
  try simp only [pna, pnb, pnc, pnd, pne]
  refine wpH_op 8 (oi := { dst := some 25, op := Op.box 68 (Operand.tmp 24), type := 40, pos := "trie.go:62", after := #[{ on := 7, ground := Ground.data }], guard := none }) rfl (by kernel_rfl) (by rfl) ?_
  refine wp_newK 68 #[ptV p3] (fun m => .pointer (some ⟨m, 0, none⟩)) (fun w => by cases p3 <;> simp only [ptV_none, ptV_some] <;> go_simp <;> try rfl) ?_
  intro m wk hm hh hmk hbk
  have hK4 := hK3.keep hbk
  replace hS := hS.trans (hbk.mono hS.size)
  refine ⟨hS, ?_⟩
  try simp only [pna, pnb, pnc, pnd, pne]
  (refine hP 9 ?_ ⟨some 4, .assign (.tmp 25), 40, "", #[], none⟩ hS ?_ ?_; rotate_left; focus (intro w; go_simp; try with_reducible rfl))
  try simp only [pna, pnb, pnc, pnd, pne]
  (refine hP 10 ?_ ⟨some 5, .assign (.const (.int .i64 0)), 30, "", #[], none⟩ hS ?_ ?_; rotate_left; focus (intro w; go_simp; try with_reducible rfl))
  try simp only [pna, pnb, pnc, pnd, pne]
  refine wpAnyH_done (by kernel_rfl) ?_ _
  go_wp2_with fail
  exact HP.out _ _ ⟨hb1.trans (hS.mono hb1.size), m, rfl, p3, Blk.of_heap hh hmk, hK4⟩
 ·have HP : Hid (∀ e w', (Below w.heap.size w w' ∧ e = .returned (.tuple #[.pointer none, .int .i64 ((getK t k).2)])) → DelP' w.heap.size w t k e w') := Lib.hid (fun e w' h => ⟨h.1, .inl ⟨h0, h.2⟩⟩)
  generalize DelP' w.heap.size w t k = Q at *
  generalize (getK t k).1 = g at *
  generalize (getK t k).2 = c at *
  have h1 : (c == 0) = false := by simpa using h0
  have h2 : (c != 0) = true := by simpa using h0
  clear h0 hT hkt
  go_enter Tryz.func27, Tryz.ntmps27
  go_wp2_with fail
  refine HG.out.mono ?_
  rintro e w1 ⟨rfl, hb1⟩
  clear HG
  go_wp2_with fail
  exact HP.out _ _ ⟨hb1, rfl⟩
theorem troot_any (pt : Nat) (t : Tri) (w : World) (hT : TAt w pt t) :
  Calls Tryz.prog 16 #[.pointer (some ⟨pt, 0, none⟩)] w fun e w' => e = .returned (.string ⟨List.toArray (sumT t)⟩) ∧ w = w' := by
 obtain ⟨kp, hB, hK⟩ := hT
 have c0 := hB.cell 0
 cases kp with
 | none =>
  obtain rfl := hK.none'
  rw [show sumT .nil = [] from rfl]
  rw [ptV_none] at c0
  have c1 : w.cell? ⟨pt, 0, none⟩ = some (.pointer none) := c0
  clear hB hK c0
  go_enter Tryz.func16, Tryz.ntmps16
  go_wp2_with fail
  go_ret
  exact ⟨rfl, rfl⟩
 | some b =>
  obtain ⟨_, ps, _, ⟨_, _, _, _, d4, d5, _⟩, _⟩ := hK.open
  have c1 : w.cell? ⟨pt, 0, none⟩ = some (.pointer (some ⟨b, 0, none⟩)) := c0
  clear hB hK c0
  generalize sumT t = n at *
  go_enter Tryz.func16, Tryz.ntmps16
  go_wp2_with fail
  go_ret
  exact ⟨rfl, rfl⟩
end Go.Proofs.YtjppbomngnomhaaGreatDoor
namespace Go.Proofs.YtjppbomngnomhaaGreatDoor
open Go.Shelf
def keysB_ren : Go.Shelf.Ren := ⟨fun | 7 => 55 | 10 => 76 | n => n, fun | 23 => 84 | 26 => 9 | 3 => 59 | 28 => 100 | 0 => 0 | 27 => 99 | 33 => 72 | 4 => 4 | n => n, fun | n => n⟩
theorem keysB : Go.Proofs.SlLaysZ.n7 Tryz.prog keysB_ren := {
 mixed := by kernel_rfl
 f7 := ⟨Tryz.f55.name, by decide, Tryz.func55.trans (congrArg some (by kernel_rfl))⟩
 f10 := ⟨Tryz.f76.name, by decide, Tryz.func76.trans (congrArg some (by kernel_rfl))⟩
 t0 := Tryz.underlying0
 a0 := Tryz.isAgg0
 z0 := Tryz.sizeOf0
 v0 := Tryz.zeroValue0
 t4 := Tryz.underlying4
 a4 := Tryz.isAgg4
 z4 := Tryz.sizeOf4
 v4 := Tryz.zeroValue4
 t23 := Tryz.underlying84
 a23 := Tryz.isAgg84
 z23 := Tryz.sizeOf84
 v23 := Tryz.zeroValue84
 t26 := Tryz.underlying9
 a26 := Tryz.isAgg9
 z26 := Tryz.sizeOf9
 v26 := Tryz.zeroValue9
 t27 := Tryz.underlying99
 a27 := Tryz.isAgg99
 z27 := Tryz.sizeOf99
 v27 := Tryz.zeroValue99
 t28 := Tryz.underlying100
 a28 := Tryz.isAgg100
 z28 := Tryz.sizeOf100
 v28 := Tryz.zeroValue100
 t33 := Tryz.underlying72
 a33 := Tryz.isAgg72
 z33 := Tryz.sizeOf72
 v33 := Tryz.zeroValue72 }
def sortedS_ren : Go.Shelf.Ren := ⟨fun | 6 => 54 | 8 => 74 | 9 => 75 | 11 => 95 | 13 => 59 | 12 => 96 | 23 => 87 | 24 => 88 | 14 => 114 | 15 => 115 | 16 => 116 | 17 => 117 | 18 => 118 | 19 => 119 | 20 => 120 | 21 => 121 | 22 => 122 | 25 => 135 | 26 => 101 | 27 => 102 | 28 => 136 | 29 => 137 | 30 => 138 | 31 => 141 | n => n, fun | 26 => 9 | 28 => 100 | 24 => 39 | 0 => 0 | 3 => 3 | 37 => 106 | 48 => 117 | 50 => 135 | 4 => 4 | 40 => 126 | 39 => 125 | 45 => 131 | 5 => 5 | 9 => 9 | 51 => 148 | 55 => 152 | 57 => 174 | 58 => 175 | 33 => 72 | n => n, fun | n => n⟩
theorem sortedS : Go.Proofs.SlLaysZ.n6 Tryz.prog sortedS_ren := {
 mixed := by kernel_rfl
 f6 := ⟨Tryz.f54.name, by decide, Tryz.func54.trans (congrArg some (by kernel_rfl))⟩
 f8 := ⟨Tryz.f74.name, by decide, Tryz.func74.trans (congrArg some (by kernel_rfl))⟩
 f11 := ⟨Tryz.f95.name, by decide, Tryz.func95.trans (congrArg some (by kernel_rfl))⟩
 t0 := Tryz.underlying0
 a0 := Tryz.isAgg0
 z0 := Tryz.sizeOf0
 v0 := Tryz.zeroValue0
 t24 := Tryz.underlying39
 a24 := Tryz.isAgg39
 z24 := Tryz.sizeOf39
 v24 := Tryz.zeroValue39
 t26 := Tryz.underlying9
 a26 := Tryz.isAgg9
 z26 := Tryz.sizeOf9
 v26 := Tryz.zeroValue9
 t28 := Tryz.underlying100
 a28 := Tryz.isAgg100
 z28 := Tryz.sizeOf100
 v28 := Tryz.zeroValue100
 i26 := by kernel_rfl }
def sortM_ren : Go.Shelf.Ren := ⟨fun | 6 => 75 | 8 => 59 | 9 => 96 | 19 => 87 | 20 => 88 | 21 => 114 | 22 => 115 | 23 => 116 | 24 => 117 | 25 => 118 | 26 => 119 | 27 => 120 | 28 => 121 | 29 => 122 | 36 => 135 | 31 => 101 | 32 => 102 | 37 => 136 | 38 => 137 | 39 => 138 | 41 => 141 | n => n, fun | 27 => 39 | 29 => 9 | 3 => 3 | 32 => 106 | 26 => 39 | 0 => 0 | 44 => 117 | 46 => 135 | 4 => 4 | 36 => 126 | 35 => 125 | 41 => 131 | 5 => 5 | 9 => 9 | 53 => 148 | 57 => 152 | 63 => 174 | 64 => 175 | n => n, fun | n => n⟩
theorem sortM : Go.Proofs.SlLaysM.n6 Tryz.prog sortM_ren := {
 mixed := by kernel_rfl
 f6 := ⟨Tryz.f75.name, by decide, Tryz.func75.trans (congrArg some (by kernel_rfl))⟩
 f8 := Tryz.func59.trans (congrArg some (by kernel_rfl))
 f9 := ⟨Tryz.f96.name, by decide, Tryz.func96.trans (congrArg some (by kernel_rfl))⟩
 f19 := Tryz.func87.trans (congrArg some (by kernel_rfl))
 f20 := Tryz.func88.trans (congrArg some (by kernel_rfl))
 f21 := ⟨Tryz.f114.name, by decide, Tryz.func114.trans (congrArg some (by kernel_rfl))⟩
 f22 := ⟨Tryz.f115.name, by decide, Tryz.func115.trans (congrArg some (by kernel_rfl))⟩
 f23 := ⟨Tryz.f116.name, by decide, Tryz.func116.trans (congrArg some (by kernel_rfl))⟩
 f24 := ⟨Tryz.f117.name, by decide, Tryz.func117.trans (congrArg some (by kernel_rfl))⟩
 f25 := ⟨Tryz.f118.name, by decide, Tryz.func118.trans (congrArg some (by kernel_rfl))⟩
 f26 := ⟨Tryz.f119.name, by decide, Tryz.func119.trans (congrArg some (by kernel_rfl))⟩
 f27 := ⟨Tryz.f120.name, by decide, Tryz.func120.trans (congrArg some (by kernel_rfl))⟩
 f28 := ⟨Tryz.f121.name, by decide, Tryz.func121.trans (congrArg some (by kernel_rfl))⟩
 f29 := ⟨Tryz.f122.name, by decide, Tryz.func122.trans (congrArg some (by kernel_rfl))⟩
 f31 := Tryz.func101.trans (congrArg some (by kernel_rfl))
 f32 := Tryz.func102.trans (congrArg some (by kernel_rfl))
 f36 := ⟨Tryz.f135.name, by decide, Tryz.func135.trans (congrArg some (by kernel_rfl))⟩
 f37 := ⟨Tryz.f136.name, by decide, Tryz.func136.trans (congrArg some (by kernel_rfl))⟩
 f38 := ⟨Tryz.f137.name, by decide, Tryz.func137.trans (congrArg some (by kernel_rfl))⟩
 f39 := ⟨Tryz.f138.name, by decide, Tryz.func138.trans (congrArg some (by kernel_rfl))⟩
 f41 := ⟨Tryz.f141.name, by decide, Tryz.func141.trans (congrArg some (by kernel_rfl))⟩
 t0 := Tryz.underlying0
 a0 := Tryz.isAgg0
 z0 := Tryz.sizeOf0
 v0 := Tryz.zeroValue0
 t3 := Tryz.underlying3
 a3 := Tryz.isAgg3
 z3 := Tryz.sizeOf3
 v3 := Tryz.zeroValue3
 t4 := Tryz.underlying4
 a4 := Tryz.isAgg4
 z4 := Tryz.sizeOf4
 v4 := Tryz.zeroValue4
 t5 := Tryz.underlying5
 a5 := Tryz.isAgg5
 z5 := Tryz.sizeOf5
 v5 := Tryz.zeroValue5
 t9 := Tryz.underlying9
 a9 := Tryz.isAgg9
 z9 := Tryz.sizeOf9
 v9 := Tryz.zeroValue9
 t26 := Tryz.underlying39
 a26 := Tryz.isAgg39
 z26 := Tryz.sizeOf39
 v26 := Tryz.zeroValue39
 t27 := Tryz.underlying39
 a27 := Tryz.isAgg39
 z27 := Tryz.sizeOf39
 v27 := Tryz.zeroValue39
 t29 := Tryz.underlying9
 a29 := Tryz.isAgg9
 z29 := Tryz.sizeOf9
 v29 := Tryz.zeroValue9
 t32 := Tryz.underlying106
 a32 := Tryz.isAgg106
 z32 := Tryz.sizeOf106
 v32 := Tryz.zeroValue106
 t35 := Tryz.underlying125
 a35 := Tryz.isAgg125
 z35 := Tryz.sizeOf125
 v35 := Tryz.zeroValue125
 t36 := Tryz.underlying126
 a36 := Tryz.isAgg126
 z36 := Tryz.sizeOf126
 v36 := Tryz.zeroValue126
 t41 := Tryz.underlying131
 a41 := Tryz.isAgg131
 z41 := Tryz.sizeOf131
 v41 := Tryz.zeroValue131
 t44 := Tryz.underlying117
 a44 := Tryz.isAgg117
 z44 := Tryz.sizeOf117
 v44 := Tryz.zeroValue117
 t46 := Tryz.underlying135
 a46 := Tryz.isAgg135
 z46 := Tryz.sizeOf135
 v46 := Tryz.zeroValue135
 t53 := Tryz.underlying148
 a53 := Tryz.isAgg148
 z53 := Tryz.sizeOf148
 v53 := Tryz.zeroValue148
 t57 := Tryz.underlying152
 a57 := Tryz.isAgg152
 z57 := Tryz.sizeOf152
 v57 := Tryz.zeroValue152
 t63 := Tryz.underlying174
 a63 := Tryz.isAgg174
 z63 := Tryz.sizeOf174
 v63 := Tryz.zeroValue174
 t64 := Tryz.underlying175
 a64 := Tryz.isAgg175
 z64 := Tryz.sizeOf175
 v64 := Tryz.zeroValue175 }
end Go.Proofs.YtjppbomngnomhaaGreatDoor
namespace Go.Proofs.YtjppbomngnomhaaGreatDoor
open Go.RowKit Pl
def leS (a b : Bs) : Bool := Op.bytesLess a b || a == b
@[go_sem high] theorem leq_S (t : TypeId) (a b : Bs) : binOp .leq t (.string ⟨List.toArray a⟩) (.string ⟨List.toArray b⟩) = pure (.bool (leS a b)) := by
 rw [binOp_string_leq]
 unfold leS
 rw [Lib.toList_data, Lib.toList_data]
def MSrc (w : World) (g o : Nat) (l : List (Bs × Int)) : Prop := ∀ i, i < l.length → w.cell? ⟨g, o + i * 2, none⟩ = some (.string ⟨List.toArray ((l.getD i ([], 0)).1)⟩) ∧ w.cell? ⟨g, o + i * 2 + 1, none⟩ = some (.int .i64 ((l.getD i ([], 0)).2))
namespace Pl
theorem dropS (l : List Bs) (i : Nat) (hi : i < l.length) : l.drop i = l.getD i [] :: l.drop (i + 1) := by
 rw [List.drop_eq_getElem_cons hi, List.getD_eq_getElem?_getD, List.getElem?_eq_getElem hi]
 rfl
end Pl
end Go.Proofs.YtjppbomngnomhaaGreatDoor
namespace Go.Proofs.YtjppbomngnomhaaGreatDoor
open Go.RowKit Pl
theorem take_yes (l : Bs) (at_ n : Nat) (code : Int) (p : Nat) (w : World) (hl : l.length ≤ 9223372036854775807) (hn : at_ + n ≤ l.length)
  (B : Blk w p #[.string ⟨List.toArray l⟩, .int .i64 at_, .int .i64 code]) :
  Calls Tryz.prog 128 #[.pointer (some ⟨p, 0, none⟩), .int .i64 n] w fun e w' => e = .returned (.tuple #[.string ⟨List.toArray ((l.drop at_).take n)⟩, .bool true]) ∧ Blk w' p #[.string ⟨List.toArray l⟩, .int .i64 ((at_ + n : Nat)), .int .i64 code] ∧ Mod [p] w w' := by
 obtain ⟨b1, b2, b3⟩ := id B
 go_enter Tryz.func128, Tryz.ntmps128
 go_wp2_with fail
 go_quiet (fail)
 go_wp2_with fail
 go_quiet (fail)
 go_wp2_with fail
 go_ret2
 refine ⟨ret_two (by simp) rfl, ?_, ?_⟩
 ·exact (B.drewN _).set 1 _
 ·exact ((Mod.refl _ _).drewN _).setCell (.inl (by simp)) _
theorem take_no (l : Bs) (at_ n : Nat) (code : Int) (p : Nat) (w : World) (hl : l.length ≤ 9223372036854775807) (ha : at_ ≤ l.length) (hn : l.length < at_ + n)
  (B : Blk w p #[.string ⟨List.toArray l⟩, .int .i64 at_, .int .i64 code]) :
  Calls Tryz.prog 128 #[.pointer (some ⟨p, 0, none⟩), .int .i64 n] w fun e w' => e = .returned (.tuple #[.string ⟨List.toArray []⟩, .bool false]) ∧ Blk w' p #[.string ⟨List.toArray l⟩, .int .i64 at_, .int .i64 code] ∧ Mod [p] w w' := by
 obtain ⟨b1, b2, b3⟩ := id B
 have hn' : (l.length : Int) - at_ < n := by omega
 go_enter Tryz.func128, Tryz.ntmps128
 go_wp2_with fail
 go_quiet (fail)
 go_wp2_with fail
 go_ret2
 exact ⟨rfl, B.drewN _, (Mod.refl _ _).drewN _⟩
theorem refused_yes (l : Bs) (at_ frm : Nat) (e : Int) (p : Nat) (w : World) (B : Blk w p #[.string ⟨List.toArray l⟩, .int .i64 at_, .int .i64 0]) :
  Calls Tryz.prog 127 #[.pointer (some ⟨p, 0, none⟩), .int .i64 frm, .int .i64 e] w fun x w' => x = .returned (.tuple #[]) ∧ Blk w' p #[.string ⟨List.toArray l⟩, .int .i64 frm, .int .i64 e] ∧ Mod [p] w w' := by
 obtain ⟨b1, b2, b3⟩ := id B
 go_enter Tryz.func127, Tryz.ntmps127
 go_wp2_with fail
 go_end0
 exact ⟨rfl, (B.set 1 _).set 2 _, ((Mod.refl _ _).setCell (.inl (by simp)) _).setCell (.inl (by simp)) _⟩
theorem refused_no (l : Bs) (at_ frm : Nat) (c e : Int) (hc : c ≠ 0) (p : Nat) (w : World) (B : Blk w p #[.string ⟨List.toArray l⟩, .int .i64 at_, .int .i64 c]) :
  Calls Tryz.prog 127 #[.pointer (some ⟨p, 0, none⟩), .int .i64 frm, .int .i64 e] w fun x w' => x = .returned (.tuple #[]) ∧ w = w' := by
 obtain ⟨b1, b2, b3⟩ := id B
 have hc1 : (c == 0) = false := by simpa using hc
 have hc2 : (c != 0) = true := by simpa using hc
 go_enter Tryz.func127, Tryz.ntmps127
 go_wp2_with fail
 go_end0
 exact ⟨rfl, rfl⟩
theorem left_any (l : Bs) (at_ : Nat) (code : Int) (p : Nat) (w : World) (hl : l.length ≤ 9223372036854775807) (ha : at_ ≤ l.length) (B : Blk w p #[.string ⟨List.toArray l⟩, .int .i64 at_, .int .i64 code]) :
  Calls Tryz.prog 131 #[.pointer (some ⟨p, 0, none⟩)] w fun e w' => e = .returned (.int .i64 ((l.length - at_ : Int))) ∧ ∃ n, w' = w.drewN n := by
 obtain ⟨b1, b2, b3⟩ := id B
 go_enter Tryz.func131, Tryz.ntmps131
 go_wp2_with fail
 go_quiet (fail)
 go_wp2_with fail
 go_ret
 exact ⟨rfl, _, rfl⟩
theorem readNew (l : Bs) (w : World) :
  Calls Tryz.prog 106 #[.string ⟨List.toArray l⟩] w fun e w' => e = .returned (.pointer (some ⟨w.heap.size, 0, none⟩)) ∧ w' = w.alloc (.cells #[.string ⟨List.toArray l⟩, .int .i64 0, .int .i64 0] 178) := by
 go_enter Tryz.func106, Tryz.ntmps106
 go_wp2_with fail
 go_ret
 exact ⟨rfl, rfl⟩
theorem take_cons {s : Bs} {k : UInt8} {r : Bs} (h : s = k :: r) : Pl.take s = (if 8 < k.toNat then (0, [], 3)
  else if r.length < k.toNat then (0, [], 20)
  else if (0 < k.toNat ∧ r.headD 0 = 0) ∨ (k.toNat = 8 ∧ 127 < (r.headD 0).toNat) then (0, [], 3)
  else (be (r.take k.toNat), r.drop k.toNat, 0)) := by subst h; rfl
def NumAt (p : Nat) (l : Bs) (at_ : Nat) (w' : World) : Prop :=
 ∃ a : Nat, a ≤ l.length ∧ at_ ≤ a ∧ Blk w' p #[.string ⟨List.toArray l⟩, .int .i64 a, .int .i64 0] ∧ ((Pl.take (l.drop at_)).2.2 = 0 → l.drop a = (Pl.take (l.drop at_)).2.1)
theorem number_empty (l : Bs) (at_ : Nat) (p : Nat) (w : World) (hl : l.length ≤ 9223372036854775807) (ha : at_ = l.length) (B : Blk w p #[.string ⟨List.toArray l⟩, .int .i64 at_, .int .i64 0]) :
  Calls Tryz.prog 144 #[.pointer (some ⟨p, 0, none⟩)] w fun e w' => e = .returned (.tuple #[.int .i64 0, .int .i64 20]) ∧ Blk w' p #[.string ⟨List.toArray l⟩, .int .i64 at_, .int .i64 0] ∧ Mod [p] w w' := by
 obtain ⟨b1, b2, b3⟩ := id B
 go_enter Tryz.func144, Tryz.ntmps144
 go_wp2_with fail
 refine (take_no l at_ 1 0 p _ hl (by omega) (by omega) B).mono ?_
 rintro e w1 ⟨rfl, B1, m1⟩
 clear b1 b2 b3
 go_wp2_with fail
 go_ret2
 exact ⟨rfl, B1, m1⟩
theorem number_some (l : Bs) (at_ : Nat) (k : UInt8) (r : Bs) (p : Nat) (w : World) (hl : l.length ≤ 9223372036854775807) (hs : l.drop at_ = k :: r) (B : Blk w p #[.string ⟨List.toArray l⟩, .int .i64 at_, .int .i64 0]) :
  Calls Tryz.prog 144 #[.pointer (some ⟨p, 0, none⟩)] w fun e w' => e = .returned (.tuple #[.int .i64 ((Pl.take (l.drop at_)).1), .int .i64 ((Pl.take (l.drop at_)).2.2)]) ∧ NumAt p l at_ w' ∧ Mod [p] w w' := by
 have hlen : at_ + 1 + r.length = l.length := by
  have := congrArg List.length hs
  simp at this
  omega
 have htake : (l.drop at_).take 1 = [k] := by rw [hs]; rfl
 have HT := Lib.hid htake
 have HC := Lib.hid (take_cons hs)
 have HS := Lib.hid hs
 clear htake hs
 have hk := k.toNat_lt
 obtain ⟨b1, b2, b3⟩ := id B
 go_enter Tryz.func144, Tryz.ntmps144
 go_wp2_with fail
 refine (take_yes l at_ 1 0 p _ hl (by omega) B).mono ?_
 rintro e w1 ⟨rfl, B1, m1⟩
 rw [HT.out]
 clear b1 b2 b3
 by_cases h8 : 8 < k.toNat
 ·have h8' : (8 : Int) < (k.toNat : Int) := by omega
  go_wp2_with fail
  go_ret2
  unfold NumAt
  rw [show Pl.take (l.drop at_) = (0, [], 3) from by rw [HC.out, if_pos h8]]
  exact ⟨rfl, ⟨at_ + 1, by omega, by omega, B1, fun h => by cases h⟩, m1⟩
 have h8' : ¬ (8 : Int) < (k.toNat : Int) := by omega
 by_cases hr : r.length < k.toNat
 ·go_wp2_with fail
  refine (take_no l (at_ + 1) k.toNat 0 p _ hl (by omega) (by omega) B1).mono ?_
  rintro e w2 ⟨rfl, B2, m2⟩
  go_wp2_with fail
  go_ret2
  unfold NumAt
  rw [show Pl.take (l.drop at_) = (0, [], 20) from by rw [HC.out, if_neg h8, if_pos hr]]
  exact ⟨rfl, ⟨at_ + 1, by omega, by omega, B2, fun h => by cases h⟩, m1.trans m2⟩
 have hb : (l.drop (at_ + 1)).take k.toNat = r.take k.toNat := by
  rw [← List.drop_drop, HS.out]; rfl
 have HB := Lib.hid hb
 clear hb
 go_wp2_with fail
 refine (take_yes l (at_ + 1) k.toNat 0 p _ hl (by omega) B1).mono ?_
 rintro e w2 ⟨rfl, B2, m2⟩
 rw [HB.out]
 have hm := m1.trans m2
 clear m1 m2 B1 B
 have hdrop : l.drop (at_ + 1 + k.toNat) = r.drop k.toNat := by
  rw [← List.drop_drop, ← List.drop_drop, HS.out]; rfl
 have HD := Lib.hid hdrop
 clear hdrop
 have hbl : (r.take k.toNat).length = k.toNat := by simp; omega
 have hhd : 0 < k.toNat → (r.take k.toNat).headD 0 = r.headD 0 := by
  intro h
  cases r with
  | nil => simp
  | cons a r =>
   obtain ⟨n, hn⟩ : ∃ n, k.toNat = n + 1 := ⟨k.toNat - 1, by omega⟩
   rw [hn]; rfl
 have HH := Lib.hid hhd
 clear hhd
 generalize hbb : r.take k.toNat = b at *
 have HBB := Lib.hid hbb
 clear hbb
 generalize k.toNat = kn at *
 subst hbl
 by_cases h0 : b.length = 0
 ·have hb0 : b = [] := List.length_eq_zero_iff.1 h0
  subst hb0
  go_wp2_with fail
  go_loop [7, 58] (fun s7 s58 => s7 = .int .i64 0 ∧ s58 = .int .i64 0) (fun _ _ => 0)
  case atStart => exact ⟨rfl, rfl⟩
  case round =>
   obtain ⟨rfl, rfl⟩ := hrel
   go_wp2_with fail
   go_ret2
   unfold NumAt
   rw [show Pl.take (l.drop at_) = (0, r, 0) from by rw [HC.out, if_neg h8, if_neg hr, if_neg (by simp)]; rfl]
   exact ⟨rfl, ⟨at_ + 1, by omega, by omega, B2, fun _ => HD.out⟩, hm⟩
 have HH' := HH.out (by omega)
 obtain ⟨c, b', hcb⟩ : ∃ c b', b = c :: b' := by
  cases b with
  | nil => exact absurd rfl h0
  | cons c b' => exact ⟨c, b', rfl⟩
 have hcr : r.headD 0 = c := by rw [← HH', hcb]; rfl
 have HCR := Lib.hid hcr
 clear hcr HH' HH
 by_cases hc0 : c = 0
 ·subst hcb
  have hc1 : (c.toNat : Int) = 0 := by rw [hc0]; rfl
  have hbl : 0 < b'.length + 1 := by omega
  have hl0 : (0 : Int) < (b'.length : Int) + 1 := by omega
  have hcb : ((c.toNat : Int) == 0) = true := by simpa using hc1
  have HX := Lib.hid hc1
  clear hc1
  go_wp2_with fail
  go_ret2
  unfold NumAt
  rw [show Pl.take (l.drop at_) = (0, [], 3) from by rw [HC.out, if_neg h8, if_neg hr, if_pos (.inl ⟨by omega, by rw [HCR.out, hc0]⟩)]]
  exact ⟨rfl, ⟨at_ + 1 + (c :: b').length, by omega, by omega, B2, fun h => by cases h⟩, hm⟩
 have hcn : ¬ (c.toNat : Int) = 0 := by
  intro h
  apply hc0
  apply UInt8.toNat_inj.1
  simpa using h
 have hcb0 : ((c.toNat : Int) == 0) = false := by simpa using hcn
 have HX := Lib.hid hcn
 clear hcn
 have hb0 : (0 : Int) < (b.length : Int) := by omega
 have hlt0 : 0 < b.length := by omega
 have hget : b[0] = c := by subst hcb; rfl
 have hhd0 : b.headD 0 = c := by subst hcb; rfl
 have HHD := Lib.hid hhd0
 clear hhd0 hcb
 by_cases h88 : b.length = 8 ∧ 127 < c.toNat
 ·have h8b : ((b.length : Int) == 8) = true := by simp; omega
  have hcg : (128 : Int) ≤ (c.toNat : Int) := by omega
  have hcd : decide ((128 : Int) ≤ (c.toNat : Int)) = true := by simpa using hcg
  have HL := Lib.hid h88.1
  go_wp2_with fail
  go_ret2
  unfold NumAt
  rw [show Pl.take (l.drop at_) = (0, [], 3) from by rw [HC.out, if_neg h8, if_neg hr, if_pos (.inr ⟨h88.1, by rw [HCR.out]; exact h88.2⟩)]]
  exact ⟨rfl, ⟨at_ + 1 + b.length, by omega, by omega, B2, fun h => by cases h⟩, hm⟩
 have hbound := be_bound b (by omega) (fun h => by
  rw [HHD.out]
  omega)
 have HBD := Lib.hid hbound
 clear hbound
 have hfin : Pl.take (l.drop at_) = (be b, r.drop b.length, 0) := by
  rw [HC.out, if_neg h8, if_neg hr, if_neg (by
   rintro (⟨_, h⟩ | ⟨h1, h2⟩)
   ·exact hc0 (by rw [← HCR.out]; exact h)
   ·rw [HCR.out] at h2; exact h88 ⟨h1, h2⟩)]
 have HF := Lib.hid hfin
 clear hfin
 have hcl := c.toNat_lt
 by_cases h8b : b.length = 8
 ·have h8b' : ((b.length : Int) == 8) = true := by simp; omega
  have hcg : ¬ (128 : Int) ≤ (c.toNat : Int) := by omega
  have hcd : decide ((128 : Int) ≤ (c.toNat : Int)) = false := by simpa using hcg
  have H8 := Lib.hid h8b
  clear h8b h88
  go_wp2_with fail
  go_loop [7, 58] (fun s7 s58 => ∃ i : Nat, i ≤ b.length ∧ s58 = .int .i64 i ∧ s7 = .int .i64 (be (b.take i))) (fun _ s58 => b.length - (intOf s58).toNat)
  case atStart => exact ⟨0, by omega, rfl, by simp [be]⟩
  case round =>
   obtain ⟨i, hi, rfl, rfl⟩ := hrel
   by_cases hlt : i < b.length
   ·have hbd := HBD.out i hlt
    have hsn : be (b.take (i + 1)) = be (b.take i) * 256 + b[i].toNat := by
     rw [List.take_succ_eq_append_getElem hlt, be_snoc]
    have HSN := Lib.hid hsn
    clear hsn
    have hbi := b[i].toNat_lt
    generalize be (b.take i) = m at *
    go_wp2_with fail
    exact ⟨⟨i + 1, by omega, by go_num, by rw [HSN.out, i64_or_byte _ _ hbd hbi]⟩, by simp [intOf]; omega⟩
   ·go_wp2_with fail
    go_ret2
    unfold NumAt
    rw [HF.out]
    have hib : i = b.length := by omega
    subst hib
    exact ⟨ret_two (by simp) rfl, ⟨at_ + 1 + b.length, by omega, by omega, B2, fun _ => HD.out⟩, hm⟩
 ·have h8b' : ((b.length : Int) == 8) = false := by simp; omega
  go_wp2_with fail
  go_loop [7, 58] (fun s7 s58 => ∃ i : Nat, i ≤ b.length ∧ s58 = .int .i64 i ∧ s7 = .int .i64 (be (b.take i))) (fun _ s58 => b.length - (intOf s58).toNat)
  case atStart => exact ⟨0, by omega, rfl, by simp [be]⟩
  case round =>
   obtain ⟨i, hi, rfl, rfl⟩ := hrel
   by_cases hlt : i < b.length
   ·have hbd := HBD.out i hlt
    have hsn : be (b.take (i + 1)) = be (b.take i) * 256 + b[i].toNat := by
     rw [List.take_succ_eq_append_getElem hlt, be_snoc]
    have HSN := Lib.hid hsn
    clear hsn
    have hbi := b[i].toNat_lt
    generalize be (b.take i) = m at *
    go_wp2_with fail
    exact ⟨⟨i + 1, by omega, by go_num, by rw [HSN.out, i64_or_byte _ _ hbd hbi]⟩, by simp [intOf]; omega⟩
   ·go_wp2_with fail
    go_ret2
    unfold NumAt
    rw [HF.out]
    have hib : i = b.length := by omega
    subst hib
    exact ⟨ret_two (by simp) rfl, ⟨at_ + 1 + b.length, by omega, by omega, B2, fun _ => HD.out⟩, hm⟩
end Go.Proofs.YtjppbomngnomhaaGreatDoor
