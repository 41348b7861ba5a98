/- For every input the statement SafetyVotes returns true: whether a voter may vote, what it keeps, and whether three views follow one another, are those of the document. No condition. -/
import Derived.Test.YtaomimincmggfaaSafetyVotes
import Derived.Test.YtaomimincmggfaaOpen
set_option linter.unusedVariables false
namespace Go.Proofs.Ytaomimincmggfaa.votes
open Go.ChangeShapes Go.WideShapes Go.ChangeAt Go.RowKit

theorem own : ownKnob Try.prog.godebug = none := by kernel_rfl
theorem laid : laidOutB Try.prog = true := by kernel_rfl

set_option maxRecDepth 100000 in
theorem lifted (os : Os) (started : os.Started) (H : Type) (enc : TypeId × Value → H) :
    ReturnsInHanded {} Try.checked os 3 .any (Rows.safetyVotesSpec.pre6 enc Try.prog Try.f3 Rows.safetyVotesRow.domain false) (Rows.safetyVotesSpec.post enc Try.prog Try.f3 false true false false) := by
  refine returnsInHanded_of_change (C := Try.checked) own started (by kernel_rfl) Try.func3
    (ChangeSpec.witness6 (enc := enc) (C := Try.checked) false ⟨#[], #[.agg #[.int .i64 0, .int .i64 0], .agg #[.int .i64 0, .int .i64 0, .int .i64 0], .agg #[.int .i64 0, .int .i64 0, .int .i64 0]], []⟩ 8 (by kernel_rfl) (by kernel_rfl) (by kernel_rfl) (by kernel_rfl)) ?_
  intro W base args ds gs before hval0 hW hcnd _
  have hval : ∀ (j : Nat) t v, Try.f3.params[j]? = some t → args[j]? = some v → Value.okWide Try.prog W .any base t v := hval0
  have hW' := hW
  obtain ⟨p, q, hA0, hV, rfl, hfz, hnd⟩ := hW
  have hA : DataW.TrodAll enc Try.prog W 0 (fun _ => true) true Try.f3.params.toList args.toList ds p := hA0
  rw [Try.params3] at hA hval
  obtain ⟨v0, vs0, d0, ds0, p0, q0, hargs, rfl, rfl, h0, r0⟩ := trodAll_cons hA
  obtain ⟨v1, vs1, d1, ds1, p1, q1, rfl, rfl, rfl, h1, r1⟩ := trodAll_cons r0
  obtain ⟨v2, vs2, d2, ds2, p2, q2, rfl, rfl, rfl, h2, r2⟩ := trodAll_cons r1
  obtain ⟨rfl, rfl, rfl⟩ := trodAll_nil r2
  obtain rfl : args = #[v0, v1, v2] := by cases args; simp_all
  obtain ⟨rfl, rfl⟩ := trodVars_none hV
  have s0 : Sh.Val W (repSh (.int .i64) 2) v0 := shape_val (P := Try.prog) (m := 12) (by kernel_rfl) (hval 0 22 v0 rfl rfl) h0
  have s1 : Sh.Val W (repSh (.int .i64) 3) v1 := shape_val (P := Try.prog) (m := 12) (by kernel_rfl) (hval 1 23 v1 rfl rfl) h1
  have s2 : Sh.Val W (repSh (.int .i64) 3) v2 := shape_val (P := Try.prog) (m := 12) (by kernel_rfl) (hval 2 23 v2 rfl rfl) h2
  clear hA0 hval0 hval hA hfz hnd h0 h1 h2
  have walk : Calls Try.prog 3 #[v0, v1, v2] W fun e W' => e = .returned (.bool true) ∧ Below W.heap.size W W' := by
    clear hW'
    obtain ⟨c0, rfl, _, _, rfl, ⟨v, rfl, wv⟩, _, _, rfl, ⟨l, rfl, wl⟩, rfl⟩ := s0
    obtain ⟨c1, rfl, _, _, rfl, ⟨a, rfl, wa⟩, _, _, rfl, ⟨b, rfl, wb⟩, _, _, rfl, ⟨c, rfl, wc⟩, rfl⟩ := s1
    obtain ⟨c2, rfl, _, _, rfl, ⟨x, rfl, wx⟩, _, _, rfl, ⟨y, rfl, wy⟩, _, _, rfl, ⟨z, rfl, wz⟩, rfl⟩ := s2
    exact votes_any v l a b c x y z (wf64 wx) (wf64 wy) (wf64 wz) W
  refine walk.mono fun e W' ⟨he, hb⟩ => ?_
  subst he
  exact ⟨_, rfl, law_post (tb := 4) laid (by kernel_rfl) hW' rfl (by kernel_rfl) Try.underlying4 rfl hb⟩

theorem proved : Rows.SafetyVotesSaid :=
  OpenClaim.holds_of_wide 3 Try.f3 rfl rfl rfl rfl rfl rfl rfl ⟨rfl, rfl, rfl, rfl, rfl⟩ rfl rfl rfl rfl rfl (by kernel_rfl) Try.func3 (by kernel_rfl)
    (of_decide_eq_true (by kernel_rfl)) (by unfold Func.isWrapper; first | (rw [if_pos (by decide +kernel)]; kernel_rfl) | (rw [if_neg (by decide +kernel)]; exact ⟨rfl, rfl⟩))
    (fun os started H enc _ => lifted os started H enc)

#print axioms proved
end Go.Proofs.Ytaomimincmggfaa.votes
