/- For every two nodes the statement NodeUnlike returns true: two nodes that may be have the same bytes just if they are the same, and neither's begin the other's unless they are. No condition. -/
import Derived.Test.YtphlcpnijekbaaaUnlike
import Derived.Test.YtphlcpnijekbaaaOpen
set_option linter.unusedVariables false
namespace Go.Proofs.Ytphlcpnijekbaaa.unlike
open Go.ChangeShapes Go.WideShapes Go.ChangeAt Go.RowKit Pl

theorem str_list (s : ByteArray) : s = ⟨List.toArray s.data.toList⟩ := by
  apply ByteArray.ext
  simp
theorem rep_strs {W : World} : ∀ (n : Nat) (cs : List Value), (repSh .str n).Ok W cs → ∃ f : Nat → Bs, cs = (List.range n).map fun i => .string ⟨List.toArray (f i)⟩
  | 0, cs, h => by
    rw [show cs = [] from h]
    exact ⟨noK, rfl⟩
  | n + 1, cs, h => by
    obtain ⟨x, y, rfl, ⟨s, rfl, _⟩, hy⟩ := h
    obtain ⟨f, rfl⟩ := rep_strs n y hy
    refine ⟨fun i => match i with | 0 => s.data.toList | j + 1 => f j, ?_⟩
    rw [List.range_succ_eq_map]
    simp
theorem node_val {W : World} {v : Value} (h : Sh.Val W (.pair (.int .i64) (.pair .str (.pair .str (.pair (repSh .str 16) .unit)))) v) : ∃ (k : Int) (p q : Bs) (kid : Nat → Bs), v = .agg (nd k p q kid).toArray := by
  obtain ⟨c0, rfl, _, _, rfl, ⟨k, rfl, _⟩, _, _, rfl, ⟨p, rfl, _⟩, _, _, rfl, ⟨q, rfl, _⟩, _, _, rfl, hr, rfl⟩ := h
  obtain ⟨f, rfl⟩ := rep_strs 16 _ hr
  refine ⟨k, p.data.toList, q.data.toList, f, ?_⟩
  rw [nd, ka, kidL, List.map_map]
  simp

theorem own : ownKnob Try.prog.godebug = none := by kernel_rfl
theorem laid : laidOutB Try.prog = true := by kernel_rfl

set_option maxRecDepth 100000 in
theorem lifted (os : Os) (started : os.Started) (H : Type) (enc : TypeId × Value → H) :
    ReturnsInHanded {} Try.checked os 4 .any (Rows.nodeUnlikeSpec.pre6 enc Try.prog Try.f4 Rows.nodeUnlikeRow.domain false) (Rows.nodeUnlikeSpec.post enc Try.prog Try.f4 false true false false) := by
  refine returnsInHanded_of_change (C := Try.checked) own started (by kernel_rfl) Try.func4
    (ChangeSpec.witness6 (enc := enc) (C := Try.checked) false ⟨#[], #[.agg #[.int .i64 0, .string ⟨#[]⟩, .string ⟨#[]⟩, .string ⟨#[]⟩, .string ⟨#[]⟩, .string ⟨#[]⟩, .string ⟨#[]⟩, .string ⟨#[]⟩, .string ⟨#[]⟩, .string ⟨#[]⟩, .string ⟨#[]⟩, .string ⟨#[]⟩, .string ⟨#[]⟩, .string ⟨#[]⟩, .string ⟨#[]⟩, .string ⟨#[]⟩, .string ⟨#[]⟩, .string ⟨#[]⟩, .string ⟨#[]⟩], .agg #[.int .i64 0, .string ⟨#[]⟩, .string ⟨#[]⟩, .string ⟨#[]⟩, .string ⟨#[]⟩, .string ⟨#[]⟩, .string ⟨#[]⟩, .string ⟨#[]⟩, .string ⟨#[]⟩, .string ⟨#[]⟩, .string ⟨#[]⟩, .string ⟨#[]⟩, .string ⟨#[]⟩, .string ⟨#[]⟩, .string ⟨#[]⟩, .string ⟨#[]⟩, .string ⟨#[]⟩, .string ⟨#[]⟩, .string ⟨#[]⟩]], []⟩ 8 (by kernel_rfl) (by kernel_rfl) (by kernel_rfl) (by kernel_rfl)) ?_
  intro W base args ds gs before hval0 hW hcnd _
  have hval : ∀ (j : Nat) t v, Try.f4.params[j]? = some t → args[j]? = some v → Value.okWide Try.prog W .any base t v := hval0
  have hW' := hW
  obtain ⟨p, q, hA0, hV, rfl, hfz, hnd⟩ := hW
  have hA : DataW.TrodAll enc Try.prog W 0 (fun _ => true) true Try.f4.params.toList args.toList ds p := hA0
  rw [Try.params4] at hA hval
  obtain ⟨v0, vs0, d0, ds0, p0, q0, hargs, rfl, rfl, h0, r0⟩ := trodAll_cons hA
  obtain ⟨v1, vs1, d1, ds1, p1, q1, rfl, rfl, rfl, h1, r1⟩ := trodAll_cons r0
  obtain ⟨rfl, rfl, rfl⟩ := trodAll_nil r1
  obtain rfl : args = #[v0, v1] := by cases args; simp_all
  obtain ⟨rfl, rfl⟩ := trodVars_none hV
  have s0 : Sh.Val W (.pair (.int .i64) (.pair .str (.pair .str (.pair (repSh .str 16) .unit)))) v0 := shape_val (P := Try.prog) (m := 12) (by kernel_rfl) (hval 0 25 v0 rfl rfl) h0
  have s1 : Sh.Val W (.pair (.int .i64) (.pair .str (.pair .str (.pair (repSh .str 16) .unit)))) v1 := shape_val (P := Try.prog) (m := 12) (by kernel_rfl) (hval 1 25 v1 rfl rfl) h1
  clear hA0 hval0 hval hA hfz hnd h0 h1
  have walk : Calls Try.prog 4 #[v0, v1] W fun e W' => e = .returned (.bool true) ∧ Below W.heap.size W W' := by
    clear hW'
    obtain ⟨k, p, q, kid, rfl⟩ := node_val s0
    obtain ⟨k2, p2, q2, kid2, rfl⟩ := node_val s1
    exact unlike_any k p q kid k2 p2 q2 kid2 W
  refine walk.mono fun e W' ⟨he, hb⟩ => ?_
  subst he
  exact ⟨_, rfl, law_post (tb := 4) laid (by kernel_rfl) hW' rfl (by kernel_rfl) Try.underlying4 rfl hb⟩

theorem proved : Rows.NodeUnlikeSaid :=
  OpenClaim.holds_of_wide 4 Try.f4 rfl rfl rfl rfl rfl rfl rfl ⟨rfl, rfl, rfl, rfl, rfl⟩ rfl rfl rfl rfl rfl (by kernel_rfl) Try.func4 (by kernel_rfl)
    (of_decide_eq_true (by kernel_rfl)) (by unfold Func.isWrapper; first | (rw [if_pos (by decide +kernel)]; kernel_rfl) | (rw [if_neg (by decide +kernel)]; exact ⟨rfl, rfl⟩))
    (fun os started H enc _ => lifted os started H enc)

#print axioms proved
end Go.Proofs.Ytphlcpnijekbaaa.unlike
