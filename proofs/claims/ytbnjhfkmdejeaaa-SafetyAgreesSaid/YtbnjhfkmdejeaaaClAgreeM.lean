/- For every play the statement SafetyAgrees returns true: of what is committed any two stand on one line. No condition. -/
import Derived.Test.YtbnjhfkmdejeaaaMg8
import Derived.Test.YtbnjhfkmdejeaaaMg11
set_option linter.unusedVariables false
namespace Go.Proofs.Ytbnjhfkmdejeaaa.agrees
open Go.ChangeShapes Go.WideShapes Go.ChangeAt Go.RowKit Pl

theorem own : ownKnob Try.prog.godebug = none := by kernel_rfl
theorem laid : laidOutB Try.prog = true := by kernel_rfl

set_option maxRecDepth 100000 in
theorem lifted (os : Os) (started : os.Started) (H : Type) (enc : TypeId × Value → H) :
    ReturnsInHanded {} Try.checked os 3 .any (Rows.safetyAgreesSpec.pre6 enc Try.prog Try.f3 Rows.safetyAgreesRow.domain false) (Rows.safetyAgreesSpec.post enc Try.prog Try.f3 false true false false) := by
  refine returnsInHanded_of_change (C := Try.checked) own started (by kernel_rfl) Try.func3
    (ChangeSpec.witness6 (enc := enc) (C := Try.checked) false ⟨#[], #[.agg #[.slice none 0 0, .slice none 0 0, .slice none 0 0, .slice none 0 0]], []⟩ 8 (by kernel_rfl) (by kernel_rfl) (by kernel_rfl) (by kernel_rfl)) ?_
  intro W base args ds gs before hval0 hW hcnd _
  have hval : ∀ (j : Nat) t v, Try.f3.params[j]? = some t → args[j]? = some v → Value.okWide Try.prog W .any base t v := hval0
  have hW' := hW
  obtain ⟨p, q, hA0, hV, rfl, hfz, hnd⟩ := hW
  have hA : DataW.TrodAll enc Try.prog W 0 (fun _ => true) true Try.f3.params.toList args.toList ds p := hA0
  rw [Try.params3] at hA hval
  obtain ⟨v0, vs0, d0, ds0, p0, q0, hargs, rfl, rfl, h0, r0⟩ := trodAll_cons hA
  obtain ⟨rfl, rfl, rfl⟩ := trodAll_nil r0
  obtain rfl : args = #[v0] := by cases args; simp_all
  obtain ⟨rfl, rfl⟩ := trodVars_none hV
  have s0 : Sh.Val W (.pair (.slice 2 (.pair .str (.pair (.int .i64) .unit))) (.pair (.slice 1 .str) (.pair (.slice 2 (.pair (.int .i64) (.pair (.int .i64) .unit))) (.pair (.slice 2 (.pair (.int .i64) (.pair (.int .i64) .unit))) .unit)))) v0 := shape_val (P := Try.prog) (m := 12) (by kernel_rfl) (hval 0 26 v0 rfl rfl) h0
  clear hA0 hval0 hval hA hfz hnd h0
  have walk : Calls Try.prog 3 #[v0] W fun e W' => e = .returned (.bool true) ∧ Below W.heap.size W W' := by
    clear hW'
    obtain ⟨mv, bv, lv, vv, rfl, hm, hb, hl, hv⟩ := play_val s0
    obtain ⟨l, hml⟩ := ms_val hm
    obtain ⟨bad, hbl, hbn⟩ := ss_val hb
    obtain ⟨bl, hll, hbb⟩ := psb_val hl
    obtain ⟨vt, hvl⟩ := ps_val hv
    exact agree_any mv bv lv vv l bad bl vt hbn hbb W hml hbl hll hvl
  refine walk.mono fun e W' ⟨he, hb⟩ => ?_
  subst he
  exact ⟨_, rfl, law_post (tb := 4) laid (by kernel_rfl) hW' rfl (by kernel_rfl) Try.underlying4 rfl hb⟩

theorem proved : Rows.SafetyAgreesSaid :=
  OpenClaim.holds_of_wide 3 Try.f3 rfl rfl rfl rfl rfl rfl rfl ⟨rfl, rfl, rfl, rfl, rfl⟩ rfl rfl rfl rfl rfl (by kernel_rfl) Try.func3 (by kernel_rfl)
    (of_decide_eq_true (by kernel_rfl)) (by unfold Func.isWrapper; first | (rw [if_pos (by decide +kernel)]; kernel_rfl) | (rw [if_neg (by decide +kernel)]; exact ⟨rfl, rfl⟩))
    (fun os started H enc _ => lifted os started H enc)

#print axioms proved
end Go.Proofs.Ytbnjhfkmdejeaaa.agrees
