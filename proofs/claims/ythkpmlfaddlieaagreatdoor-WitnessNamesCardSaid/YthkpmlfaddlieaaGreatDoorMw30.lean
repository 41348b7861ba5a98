/- WorldV, Laid. -/
import Derived.LaidMore
import Derived.Stop.Joined
import Derived.Test.YthkpmlfaddlieaaGreatDoorMw29
set_option linter.unnecessarySimpa false
set_option linter.unusedSimpArgs false
set_option linter.unusedVariables false
set_option maxRecDepth 100000
set_option maxHeartbeats 32000000
namespace Go.Proofs.YthkpmlfaddlieaaGreatDoor
open Go.ChangeShapes Go.WideShapes Go.ChangeAt Go.RowKit Pl
theorem ac_val {W : World} {v : Value} (h : Sh.Val W (.slice 3 (.pair .str (.pair (.int .i64) (.pair (.int .i64) .unit)))) v) : ∃ l : List Acc, AcL W v l := by
 rcases (show _ ∨ _ from h) with h | ⟨a, len, cap, hv, hlc, hcm, hel⟩
 ·obtain rfl : v = .slice none 0 0 := by simpa using h
  exact ⟨[], none, 0, rfl, Nat.le_refl _, by unfold maxLen; omega, fun h => absurd rfl h⟩
 ·obtain rfl : v = .slice (some a) len cap := by simpa using hv
  rcases Nat.eq_zero_or_pos len with h0 | hpos
  ·subst h0
   exact ⟨[], some a, cap, rfl, hlc, hcm, fun h => absurd rfl h⟩
  ·obtain ⟨hs, hc⟩ := slice_cells (by decide) hpos hel
   have hf : ∀ i, ∃ x : Acc, i < len → ∀ j, j < 3 → W.cell? ⟨a.block, a.off + i * 3 + j, none⟩ = (accs x)[j]? := by
    intro i
    by_cases hi : i < len
    ·obtain ⟨cs, ⟨x, y, rfl, ⟨s, rfl, _⟩, z, u, rfl, ⟨n, rfl, _⟩, z2, u2, rfl, ⟨n2, rfl, _⟩, hu⟩, _, hj⟩ := hc i hi
     have h0 := hj 0 (by decide)
     have h1 := hj 1 (by decide)
     have h2 := hj 2 (by decide)
     refine ⟨⟨s.data.toList, n, n2⟩, fun _ j hj3 => ?_⟩
     rcases (show j = 0 ∨ j = 1 ∨ j = 2 from by omega) with rfl | rfl | rfl
     ·have hq : (accs ⟨s.data.toList, n, n2⟩)[0]? = some (Value.string ⟨List.toArray s.data.toList⟩) := rfl
      rw [hq, ← str_list s]
      simpa using h0
     ·exact h1.trans rfl
     ·exact h2.trans rfl
    ·exact ⟨acZ, fun h => absurd h hi⟩
   obtain ⟨f, hf⟩ := Classical.axiomOfChoice hf
   obtain ⟨b, off, sp⟩ := a
   simp only at hs
   subst hs
   have hlt : b < W.heap.size := cell_lt ((hf 0 hpos 0 (by decide)).trans rfl)
   refine ⟨(List.range len).map f, some ⟨b, off, none⟩, cap, by simp, by simpa using hlc, hcm, fun _ => ⟨b, off, rfl, hlt, fun i hi => ?_⟩⟩
   have hi' : i < len := by simpa using hi
   have hg : ((List.range len).map f).getD i acZ = f i := by simp [List.getD, hi']
   rw [hg]
   intro j u hj
   have hj3 : j < 3 := (List.getElem?_eq_some_iff.1 hj).1
   exact (hf i hi' j hj3).trans hj
theorem bo_val {W : World} {v : Value} (h : Sh.Val W (.slice 1 .bool) v) : ∃ l : List Bool, BoL W v l := by
 rcases (show _ ∨ _ from h) with h | ⟨a, len, cap, hv, hlc, hcm, hel⟩
 ·obtain rfl : v = .slice none 0 0 := by simpa using h
  exact ⟨[], none, 0, rfl, Nat.le_refl _, by unfold maxLen; omega, fun h => absurd rfl h⟩
 ·obtain rfl : v = .slice (some a) len cap := by simpa using hv
  rcases Nat.eq_zero_or_pos len with h0 | hpos
  ·subst h0
   exact ⟨[], some a, cap, rfl, hlc, hcm, fun h => absurd rfl h⟩
  ·obtain ⟨hs, hc⟩ := slice_cells (by decide) hpos hel
   have hf : ∀ i, ∃ x : Bool, i < len → W.cell? ⟨a.block, a.off + i, none⟩ = some (.bool x) := by
    intro i
    by_cases hi : i < len
    ·obtain ⟨cs, ⟨x, rfl⟩, _, hj⟩ := hc i hi
     have h0 := hj 0 (by decide)
     exact ⟨x, fun _ => by simpa using h0⟩
    ·exact ⟨false, fun h => absurd h hi⟩
   obtain ⟨f, hf⟩ := Classical.axiomOfChoice hf
   obtain ⟨b, off, sp⟩ := a
   simp only at hs
   subst hs
   refine ⟨(List.range len).map f, some ⟨b, off, none⟩, cap, by simp, by simpa using hlc, hcm, fun _ => ⟨b, off, rfl, cell_lt (hf 0 hpos), fun i hi => ?_⟩⟩
   have hi' : i < len := by simpa using hi
   have hg : ((List.range len).map f).getD i false = f i := by simp [List.getD, hi']
   rw [hg]
   exact hf i hi'
theorem slice_one {W : World} {n : Nat} {s : Sh} {cs : List Value} (h : Sh.Ok W (.slice n s) cs) : ∃ v', cs = [v'] ∧ Sh.Val W (.slice n s) v' := by
 rcases h with rfl | ⟨a, len, cap, rfl, hr⟩
 ·exact ⟨_, rfl, .inl rfl⟩
 ·exact ⟨_, rfl, .inr ⟨a, len, cap, rfl, hr⟩⟩
theorem world_val {W : World} {v : Value} (h : Sh.Val W (.pair (.slice 3 (.pair .str (.pair (.int .i64) (.pair (.int .i64) .unit)))) (.pair (.slice 2 (.pair .str (.pair (.int .i64) .unit))) (.pair (.int .i64) (.pair (.slice 1 .str) .unit)))) v) :
  ∃ (va vs vb : Value) (many : Int) (A : List Acc) (S : List (Bs × Int)) (B : List Bs), v = .agg (wdcs va vs many vb).toArray ∧ AcL W va A ∧ MS W vs S ∧ SS W vb B := by
 obtain ⟨c0, rfl, x, y, rfl, hx, z, u, rfl, hz, x2, y2, rfl, ⟨n, rfl, _⟩, x3, y3, rfl, hx3, hy3⟩ := h
 obtain rfl : y3 = [] := hy3
 obtain ⟨v1, rfl, h1⟩ := slice_one hx
 obtain ⟨v2, rfl, h2⟩ := slice_one hz
 obtain ⟨v3, rfl, h3⟩ := slice_one hx3
 obtain ⟨A, hA⟩ := ac_val h1
 obtain ⟨S, hS⟩ := ms_val h2
 obtain ⟨B, hB, _⟩ := ss_val h3
 exact ⟨v1, v2, v3, n, A, S, B, rfl, hA, hS, hB⟩
theorem fork_val {W : World} {v : Value} (h : Sh.Val W (.pair (.int .i64) (.pair (.int .i64) (.pair (.int .i64) (.pair (.slice 1 .bool) (.pair (.slice 1 .bool) (.pair .bool .unit)))))) v) :
  ∃ (at_ by_ up : Int) (fa fb : Value) (all : Bool) (la lb : List Bool), v = .agg (fkcs at_ by_ up fa fb all).toArray ∧ BoL W fa la ∧ BoL W fb lb := by
 obtain ⟨c0, rfl, _, _, rfl, ⟨n1, rfl, _⟩, _, _, rfl, ⟨n2, rfl, _⟩, _, _, rfl, ⟨n3, rfl, _⟩, x, _, rfl, hx, z, _, rfl, hz, _, y3, rfl, ⟨b, rfl⟩, hy3⟩ := h
 obtain rfl : y3 = [] := hy3
 obtain ⟨v1, rfl, h1⟩ := slice_one hx
 obtain ⟨v2, rfl, h2⟩ := slice_one hz
 obtain ⟨la, hla⟩ := bo_val h1
 obtain ⟨lb, hlb⟩ := bo_val h2
 exact ⟨n1, n2, n3, v1, v2, b, la, lb, rfl, hla, hlb⟩
end Go.Proofs.YthkpmlfaddlieaaGreatDoor
namespace Go.Proofs.YthkpmlfaddlieaaGreatDoor
open Go.ChangeShapes Go.WideShapes Go.ChangeAt Go.RowKit
theorem gK : Tryz.prog.globalNamed "pharos/sha.k" = some 1 := by kernel_rfl
theorem tK : (Tryz.prog.globals[1]?).map (·.type) = some 245 := by kernel_rfl
theorem laid_eq {H : Type} : (Rows.laid_pharos_sha_k : DataW H) = .agg (kList.map fun n => .lit (.int .u32 n)) := rfl
theorem c1K : Tryz.prog.cellsOf 158 = 1 := by kernel_rfl
theorem kt_of_laid {W : World} (h : laidMetH Tryz.prog [("pharos/sha.k", Rows.laid_pharos_sha_k)] W) : KT W := by
 rw [MakeChecks.laidMetH_plain _ _ _ (by kernel_rfl)] at h
 obtain ⟨ps, ⟨g0, t0, cs0, f0, p0, q0, hg0, ht0, hv0, hd0, hrest⟩, _, _⟩ := h
 obtain rfl := Option.some.inj (gK.symm.trans hg0)
 obtain rfl := Option.some.inj (tK.symm.trans ht0)
 rw [laid_eq] at hd0
 obtain ⟨xs, m1, _, hx1, hl, hlen, hel⟩ := DataW.trod_array Tryz.underlying245 hd0
 rw [c1K] at hel
 simp only [Prod.mk.injEq, DataW.agg.injEq] at hx1
 have hcell : ∀ i, i < 64 → W.cell? ⟨1, i, none⟩ = some (.int .u32 (kc i)) := by
  intro i hi
  have h3 := hel i (by omega)
  have hxi : i < xs.length := by omega
  rw [List.getElem?_eq_getElem hxi] at h3
  obtain ⟨n, e1, e2, _⟩ := DataW.trod_int Tryz.underlying158 h3
  have h4 := congrArg (fun l => l[i]?) hx1.1
  simp only [List.getElem?_map, List.getElem?_eq_getElem hxi, Option.map_some] at h4
  rw [e2, List.getElem?_eq_getElem (show i < kList.length from hi)] at h4
  simp at h4
  have hv := World.var?_cell hg0 hv0 i
  rw [Nat.mul_one] at e1
  have h5 := congrArg (fun l => l[0]?) e1
  simp at h5
  have hlt : i < kList.length := hi
  rw [hv, h5, show kc i = n from by rw [← h4]; simp [kc, List.getD, hlt]]
 refine ⟨hcell, ?_⟩
 rcases Nat.lt_or_ge 1 W.heap.size with hlt | hge
 ·exact hlt
 ·have := hcell 0 (by omega)
  simp [World.cell?, Array.getElem?_eq_none hge] at this
theorem laid_door (os : Os) (args : Array Value) : laidMetH Tryz.prog [("pharos/sha.k", Rows.laid_pharos_sha_k)] ((World.doorLaid Tryz.prog 14 os).forCall (fun _ _ => 0) ⟨#[], args, []⟩).memory :=
 laidMetH_of_parts3 (fuel := 8) (laidMet_of_run' 8 (by kernel_rfl) (by kernel_rfl)) (by kernel_rfl) (by kernel_rfl)
end Go.Proofs.YthkpmlfaddlieaaGreatDoor
