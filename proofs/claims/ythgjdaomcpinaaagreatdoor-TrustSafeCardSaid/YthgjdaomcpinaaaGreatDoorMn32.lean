/- TrVal, Laid. -/
import Derived.Test.YthgjdaomcpinaaaGreatDoorRows
import Derived.ProofKit
import Derived.LaidMore
import Derived.Stop.Joined
import Derived.Test.YthgjdaomcpinaaaGreatDoorMn7
import Derived.Test.YthgjdaomcpinaaaGreatDoorMn12
import Derived.Test.YthgjdaomcpinaaaGreatDoorMn20
set_option linter.unnecessarySimpa false

/- An argument of the type api.Trusted; a text with its length. -/
set_option linter.unusedVariables false
namespace Go.Proofs.YthgjdaomcpinaaaGreatDoor
open Go.ChangeShapes Go.WideShapes Go.ChangeAt Go.RowKit Pl

theorem tr_val {W : World} {v : Value} (h : Sh.Val W (.pair (.pair (.int .i64) (.pair (.int .i64) (.pair (.int .i64) (.pair .bool (.pair .str (.pair .str (.pair .str (.pair .str (.pair .str (.pair .str (.pair (.slice 1 .str) .unit))))))))))) (.pair (.slice 2 (.pair .str (.pair (.int .i64) .unit))) (.pair (.int .i64) .unit))) v) : ∃ t : Tr, TV W v t := by
  obtain ⟨c0, rfl, hc⟩ := h
  obtain ⟨x0, y0, rfl, ⟨x1, y1, rfl, ⟨n1, rfl, _⟩, x2, y2, rfl, ⟨n2, rfl, _⟩, x3, y3, rfl, ⟨n3, rfl, _⟩, x4, y4, rfl, ⟨b, rfl⟩, x5, y5, rfl, ⟨s1, rfl, _⟩, x6, y6, rfl, ⟨s2, rfl, _⟩, x7, y7, rfl, ⟨s3, rfl, _⟩, x8, y8, rfl, ⟨s4, rfl, _⟩, x9, y9, rfl, ⟨s5, rfl, _⟩, x10, y10, rfl, ⟨s6, rfl, _⟩, x11, y11, rfl, hz1, hu1⟩, x12, y12, rfl, hz2, x13, y13, rfl, ⟨n4, rfl, _⟩, hu2⟩ := hc
  obtain rfl : y11 = [] := hu1
  obtain rfl : y13 = [] := hu2
  obtain ⟨v1, rfl, hv1⟩ : ∃ v', x11 = [v'] ∧ Sh.Val W (.slice 1 .str) v' := by
    rcases hz1 with rfl | ⟨a, len, cap, rfl, hr⟩
    · exact ⟨_, rfl, .inl rfl⟩
    · exact ⟨_, rfl, .inr ⟨a, len, cap, rfl, hr⟩⟩
  obtain ⟨v2, rfl, hv2⟩ : ∃ v', x12 = [v'] ∧ Sh.Val W (.slice 2 (.pair .str (.pair (.int .i64) .unit))) v' := by
    rcases hz2 with rfl | ⟨a, len, cap, rfl, hr⟩
    · exact ⟨_, rfl, .inl rfl⟩
    · exact ⟨_, rfl, .inr ⟨a, len, cap, rfl, hr⟩⟩
  obtain ⟨K, hK, _⟩ := ss_val hv1
  obtain ⟨L, hL⟩ := ms_val hv2
  refine ⟨⟨⟨n1, n2, n3, b, s1.data.toList, s2.data.toList, s3.data.toList, s4.data.toList, s5.data.toList, s6.data.toList, K⟩, L, n4⟩, v1, v2, ?_, hK, hL⟩
  simp only [← str_list]
  rfl
theorem str_valT {W : World} {v : Value} (h : Sh.Val W .str v) : ∃ s : Bs, v = .string ⟨List.toArray (s)⟩ ∧ s.length ≤ maxLen := by
  obtain ⟨s, hs, hl⟩ := h
  obtain rfl : v = .string s := by simpa using hs
  refine ⟨s.data.toList, ?_, by rw [Array.length_toList]; exact hl⟩
  rw [← str_list s]
end Go.Proofs.YthgjdaomcpinaaaGreatDoor

/- The table of constants that the card lists lies where the walks ask for it; a world that has it. -/
set_option linter.unusedSimpArgs false
set_option linter.unusedVariables false
namespace Go.Proofs.YthgjdaomcpinaaaGreatDoor
open Go.ChangeShapes Go.WideShapes Go.ChangeAt Go.RowKit

theorem gK : Tryz.prog.globalNamed "pharos/sha.k" = some 1 := by kernel_rfl
theorem tK : (Tryz.prog.globals[1]?).map (·.type) = some 249 := by kernel_rfl
theorem laid_eq {H : Type} : (Rows.laid_pharos_sha_k : DataW H) = .agg (kList.map fun n => .lit (.int .u32 n)) := rfl
theorem c1K : Tryz.prog.cellsOf 196 = 1 := by kernel_rfl

theorem kt_of_laid {W : World} (h : laidMetH Tryz.prog [("pharos/sha.k", Rows.laid_pharos_sha_k)] W) : KT W := by
  rw [MakeChecks.laidMetH_plain _ _ _ (by kernel_rfl)] at h
  obtain ⟨ps, ⟨g0, t0, cs0, f0, p0, q0, hg0, ht0, hv0, hd0, hrest⟩, _, _⟩ := h
  obtain rfl := Option.some.inj (gK.symm.trans hg0)
  obtain rfl := Option.some.inj (tK.symm.trans ht0)
  rw [laid_eq] at hd0
  obtain ⟨xs, m1, _, hx1, hl, hlen, hel⟩ := DataW.trod_array Tryz.underlying249 hd0
  rw [c1K] at hel
  simp only [Prod.mk.injEq, DataW.agg.injEq] at hx1
  have hcell : ∀ i, i < 64 → W.cell? ⟨1, i, none⟩ = some (.int .u32 (kc i)) := by
    intro i hi
    have h3 := hel i (by omega)
    have hxi : i < xs.length := by omega
    rw [List.getElem?_eq_getElem hxi] at h3
    obtain ⟨n, e1, e2, _⟩ := DataW.trod_int Tryz.underlying196 h3
    have h4 := congrArg (fun l => l[i]?) hx1.1
    simp only [List.getElem?_map, List.getElem?_eq_getElem hxi, Option.map_some] at h4
    rw [e2, List.getElem?_eq_getElem (show i < kList.length from hi)] at h4
    simp at h4
    have hv := World.var?_cell hg0 hv0 i
    rw [Nat.mul_one] at e1
    have h5 := congrArg (fun l => l[0]?) e1
    simp at h5
    have hlt : i < kList.length := hi
    rw [hv, h5, show kc i = n from by rw [← h4]; simp [kc, List.getD, hlt]]
  refine ⟨hcell, ?_⟩
  rcases Nat.lt_or_ge 1 W.heap.size with hlt | hge
  · exact hlt
  · have := hcell 0 (by omega)
    simp [World.cell?, Array.getElem?_eq_none hge] at this

theorem laid_door (os : Os) (args : Array Value) : laidMetH Tryz.prog [("pharos/sha.k", Rows.laid_pharos_sha_k)] ((World.doorLaid Tryz.prog 14 os).forCall (fun _ _ => 0) ⟨#[], args, []⟩).memory :=
  laidMetH_of_parts3 (fuel := 8) (laidMet_of_run' 8 (by kernel_rfl) (by kernel_rfl)) (by kernel_rfl) (by kernel_rfl)

end Go.Proofs.YthgjdaomcpinaaaGreatDoor
