/- Walks of the document's answer for layer 3: constants, the words behind a block. -/
import Derived.Test.YtmldonbmjgelnaaDoorShaB
set_option linter.unusedSimpArgs false
set_option linter.unusedVariables false
namespace Go.Proofs.YtmldonbmjgelnaaDoor
open Go.RowKit

def kArr : List Value := kList.map fun n => .int .u32 n
theorem kArr_len : kArr.length = 64 := by decide
theorem kArr_one : ∀ v ∈ kArr, v.oneCell' = true := by
  intro v hv
  simp only [kArr, List.mem_map] at hv
  obtain ⟨n, _, rfl⟩ := hv
  rfl
theorem kArr_at (i : Nat) (h : i < 64) : kArr.toArray[i]? = some (.int .u32 (kc i)) := by
  have hl : i < kList.length := h
  simp [kArr, kc, List.getD, hl]

set_option maxRecDepth 100000 in
set_option maxHeartbeats 400000 in
theorem constant_any (k : Nat) (hk : k < 64) (w : World) :
    Calls Tryd.prog 135 #[.int .i64 k] w fun e w' => e = .returned (.int .u32 (kc k)) ∧ Below w.heap.size w w' := by
  have hk' : (k : Int) < 64 := by omega
  have hc := kArr_at k hk
  go_enter Tryd.func135, Tryd.ntmps135
  go_wp2_with (refine wpList_rowStore row64w rfl rfl (.tmp 3) (.tmp 4) rfl rfl (vs := kArr) rfl kArr_len kArr_one (us := (arr 64 fun _ => 0)) (arr_len 64 _) (by rw [zero64w]; exact Blk.new' (by simp)) ?_; intro w2 S2 m2; have s2 := S2.cell k; rw [hc] at s2)
  go_ret
  exact ⟨rfl, Below.mod (Below.allocS (Below.refl _ _) _) m2 (by simp) (by simp)⟩

end Go.Proofs.YtmldonbmjgelnaaDoor
