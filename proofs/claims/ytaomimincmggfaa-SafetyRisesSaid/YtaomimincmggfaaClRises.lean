/- For every input the statement SafetyRises returns true: views for which a voter votes rise, it votes for none behind its lock, and what it refuses changes nothing. No condition. -/
import Derived.Test.YtaomimincmggfaaSafetyRises
import Derived.Test.YtaomimincmggfaaOpen
set_option linter.unusedVariables false
namespace Go.Proofs.Ytaomimincmggfaa.rises
open Go.ChangeShapes Go.WideShapes Go.ChangeAt Go.RowKit

theorem choose3 {P : Nat → Prop} {Q : Nat → Int → Int → Int → Prop} (h : ∀ i, P i → ∃ x y z, Q i x y z) : ∃ f g k : Nat → Int, ∀ i, P i → Q i (f i) (g i) (k i) := by
  have h' : ∀ i, ∃ t : Int × Int × Int, P i → Q i t.1 t.2.1 t.2.2 := fun i => by
    by_cases hp : P i
    · obtain ⟨x, y, z, hq⟩ := h i hp
      exact ⟨(x, y, z), fun _ => hq⟩
    · exact ⟨(0, 0, 0), fun hp' => absurd hp' hp⟩
  exact ⟨fun i => (Classical.choose (h' i)).1, fun i => (Classical.choose (h' i)).2.1, fun i => (Classical.choose (h' i)).2.2, fun i => Classical.choose_spec (h' i)⟩

theorem own : ownKnob Try.prog.godebug = none := by kernel_rfl
theorem laid : laidOutB Try.prog = true := by kernel_rfl

set_option maxRecDepth 100000 in
theorem lifted (os : Os) (started : os.Started) (H : Type) (enc : TypeId × Value → H) :
    ReturnsInHanded {} Try.checked os 4 .any (Rows.safetyRisesSpec.pre6 enc Try.prog Try.f4 Rows.safetyRisesRow.domain false) (Rows.safetyRisesSpec.post enc Try.prog Try.f4 false true false false) := by
  refine returnsInHanded_of_change (C := Try.checked) own started (by kernel_rfl) Try.func4
    (ChangeSpec.witness6 (enc := enc) (C := Try.checked) false ⟨#[], #[.slice none 0 0], []⟩ 8 (by kernel_rfl) (by kernel_rfl) (by kernel_rfl) (by kernel_rfl)) ?_
  intro W base args ds gs before hval0 hW hcnd _
  have hval : ∀ (j : Nat) t v, Try.f4.params[j]? = some t → args[j]? = some v → Value.okWide Try.prog W .any base t v := hval0
  have hW' := hW
  obtain ⟨p, q, hA0, hV, rfl, hfz, hnd⟩ := hW
  have hA : DataW.TrodAll enc Try.prog W 0 (fun _ => true) true Try.f4.params.toList args.toList ds p := hA0
  rw [Try.params4] at hA hval
  obtain ⟨v0, vs0, d0, ds0, p0, q0, hargs, rfl, rfl, h0, r0⟩ := trodAll_cons hA
  obtain ⟨rfl, rfl, rfl⟩ := trodAll_nil r0
  obtain rfl : args = #[v0] := by cases args; simp_all
  obtain ⟨rfl, rfl⟩ := trodVars_none hV
  have s0 : Sh.Val W (.slice 3 (repSh (.int .i64) 3)) v0 := shape_val (P := Try.prog) (m := 12) (by kernel_rfl) (hval 0 37 v0 rfl rfl) h0
  clear hA0 hval0 hval hA hfz hnd h0
  have walk : Calls Try.prog 4 #[v0] W fun e W' => e = .returned (.bool true) ∧ Below W.heap.size W W' := by
    clear hW'
    rcases s0 with h0 | ⟨a, len, cap, h0, hl, hm, hel⟩
    · cases h0
      exact rises_nil W
    · cases h0
      by_cases hz : len = 0
      · subst hz
        exact rises_zero a cap W
      obtain ⟨hs, hel'⟩ := slice_cells (by decide) (by omega) hel
      have hex : ∀ i, i < len → ∃ x y z : Int, W.cell? ⟨a.block, a.off + i * 3, none⟩ = some (.int .i64 x) ∧ W.cell? ⟨a.block, a.off + i * 3 + 1, none⟩ = some (.int .i64 y) ∧ W.cell? ⟨a.block, a.off + i * 3 + 2, none⟩ = some (.int .i64 z) := fun i hi => by
        obtain ⟨cs, ⟨_, _, rfl, ⟨x, rfl, _⟩, _, _, rfl, ⟨y, rfl, _⟩, _, _, rfl, ⟨z, rfl, _⟩, rfl⟩, _, hc⟩ := hel' i hi
        exact ⟨x, y, z, hc 0 (by omega), hc 1 (by omega), hc 2 (by omega)⟩
      obtain ⟨f, g, k, hfgk⟩ := choose3 hex
      obtain ⟨b, off, spot⟩ := a
      subst hs
      exact rises_any b off len cap f g k W hl hm hfgk
  refine walk.mono fun e W' ⟨he, hb⟩ => ?_
  subst he
  exact ⟨_, rfl, law_post (tb := 4) laid (by kernel_rfl) hW' rfl (by kernel_rfl) Try.underlying4 rfl hb⟩

theorem proved : Rows.SafetyRisesSaid :=
  OpenClaim.holds_of_wide 4 Try.f4 rfl rfl rfl rfl rfl rfl rfl ⟨rfl, rfl, rfl, rfl, rfl⟩ rfl rfl rfl rfl rfl (by kernel_rfl) Try.func4 (by kernel_rfl)
    (of_decide_eq_true (by kernel_rfl)) (by unfold Func.isWrapper; first | (rw [if_pos (by decide +kernel)]; kernel_rfl) | (rw [if_neg (by decide +kernel)]; exact ⟨rfl, rfl⟩))
    (fun os started H enc _ => lifted os started H enc)

#print axioms proved
end Go.Proofs.Ytaomimincmggfaa.rises
