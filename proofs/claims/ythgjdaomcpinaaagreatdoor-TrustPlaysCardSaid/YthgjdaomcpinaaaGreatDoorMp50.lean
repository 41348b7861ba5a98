/- Laid. -/
import Derived.LaidMore
import Derived.Stop.Joined
import Derived.Test.YthgjdaomcpinaaaGreatDoorMp16
set_option linter.unnecessarySimpa false
set_option linter.unusedSimpArgs false
set_option linter.unusedVariables false
set_option maxRecDepth 100000
set_option maxHeartbeats 32000000
namespace Go.Proofs.YthgjdaomcpinaaaGreatDoor
open Go.ChangeShapes Go.WideShapes Go.ChangeAt Go.RowKit
theorem gK : Tryz.prog.globalNamed "pharos/sha.k" = some 1 := by kernel_rfl
theorem tK : (Tryz.prog.globals[1]?).map (·.type) = some 249 := by kernel_rfl
theorem laid_eq {H : Type} : (Rows.laid_pharos_sha_k : DataW H) = .agg (kList.map fun n => .lit (.int .u32 n)) := rfl
theorem c1K : Tryz.prog.cellsOf 196 = 1 := by kernel_rfl
theorem kt_of_laid {W : World} (h : laidMetH Tryz.prog [("pharos/sha.k", Rows.laid_pharos_sha_k)] W) : KT W := by
 rw [MakeChecks.laidMetH_plain _ _ _ (by kernel_rfl)] at h
 obtain ⟨ps, ⟨g0, t0, cs0, f0, p0, q0, hg0, ht0, hv0, hd0, hrest⟩, _, _⟩ := h
 obtain rfl := Option.some.inj (gK.symm.trans hg0)
 obtain rfl := Option.some.inj (tK.symm.trans ht0)
 rw [laid_eq] at hd0
 obtain ⟨xs, m1, _, hx1, hl, hlen, hel⟩ := DataW.trod_array Tryz.underlying249 hd0
 rw [c1K] at hel
 simp only [Prod.mk.injEq, DataW.agg.injEq] at hx1
 have hcell : ∀ i, i < 64 → W.cell? ⟨1, i, none⟩ = some (.int .u32 (kc i)) := by
  intro i hi
  have h3 := hel i (by omega)
  have hxi : i < xs.length := by omega
  rw [List.getElem?_eq_getElem hxi] at h3
  obtain ⟨n, e1, e2, _⟩ := DataW.trod_int Tryz.underlying196 h3
  have h4 := congrArg (fun l => l[i]?) hx1.1
  simp only [List.getElem?_map, List.getElem?_eq_getElem hxi, Option.map_some] at h4
  rw [e2, List.getElem?_eq_getElem (show i < kList.length from hi)] at h4
  simp at h4
  have hv := World.var?_cell hg0 hv0 i
  rw [Nat.mul_one] at e1
  have h5 := congrArg (fun l => l[0]?) e1
  simp at h5
  have hlt : i < kList.length := hi
  rw [hv, h5, show kc i = n from by rw [← h4]; simp [kc, List.getD, hlt]]
 refine ⟨hcell, ?_⟩
 rcases Nat.lt_or_ge 1 W.heap.size with hlt | hge
 ·exact hlt
 ·have := hcell 0 (by omega)
  simp [World.cell?, Array.getElem?_eq_none hge] at this
theorem laid_door (os : Os) (args : Array Value) : laidMetH Tryz.prog [("pharos/sha.k", Rows.laid_pharos_sha_k)] ((World.doorLaid Tryz.prog 14 os).forCall (fun _ _ => 0) ⟨#[], args, []⟩).memory :=
 laidMetH_of_parts3 (fuel := 8) (laidMet_of_run' 8 (by kernel_rfl) (by kernel_rfl)) (by kernel_rfl) (by kernel_rfl)
end Go.Proofs.YthgjdaomcpinaaaGreatDoor
