/- For every case, certificate and text the statement CertChecks returns true. No condition. -/
import Derived.Test.YtbnjhfkmdejeaaaDoorMg17
import Derived.Test.YtbnjhfkmdejeaaaDoorCards
import Derived.Test.YtbnjhfkmdejeaaaDoorTie
import Derived.SevenTiedAt
import Derived.Test.YtbnjhfkmdejeaaaDoorMh4
set_option linter.unusedVariables false
namespace Go.Proofs.YtbnjhfkmdejeaaaDoor.checks
open Go.ChangeShapes Go.WideShapes Go.ChangeAt Go.RowKit Pl

theorem own : ownKnob Tryd.prog.godebug = none := by kernel_rfl
theorem laid : laidOutB Tryd.prog = true := by kernel_rfl

set_option maxRecDepth 100000 in
theorem lifted (os : Os) (started : os.Started) (H : Type) (enc : TypeId × Value → H) :
    ReturnsInHanded {} Tryd.checked os 3 .any (fun w args => (Rows.certChecksSpec.pre enc Tryd.prog Tryd.f3 [] false w args ∧ laidMetH Tryd.prog [("pharos/sha.k", Rows.laid_pharos_sha_k)] w) ∧ sizedMet enc Tryd.prog Tryd.f3 (OpenSpec.ofChange Rows.certChecksSpec) false w args) (Rows.certChecksSpec.post enc Tryd.prog Tryd.f3 false true false false) := by
  refine returnsInHanded_of_change_and (C := Tryd.checked) (X := fun w _ => laidMetH Tryd.prog [("pharos/sha.k", Rows.laid_pharos_sha_k)] w) (fun _ _ _ hh h => h.of_heap hh) own started (by kernel_rfl) Tryd.func3
    (ChangeSpec.witness_shaped (enc := enc) (C := Tryd.checked) (os := os) (X := fun w _ => laidMetH Tryd.prog [("pharos/sha.k", Rows.laid_pharos_sha_k)] w) false (World.doorLaid Tryd.prog 14 os) #[.agg #[.int .i64 0, .slice none 0 0, .slice none 0 0], .agg #[.string ⟨#[]⟩, .slice none 0 0], .string ⟨#[]⟩] 8 rfl (World.shaped_of_RefB (by kernel_rfl) (by kernel_rfl)) (by kernel_rfl) (by kernel_rfl) (by kernel_rfl) (laid_door os _)) ?_
  intro W base args ds gs before hval0 hW _ _ hL _
  have hK : KT W := kt_of_laid hL
  have hval : ∀ (j : Nat) t v, Tryd.f3.params[j]? = some t → args[j]? = some v → Value.okWide Tryd.prog W .any base t v := hval0
  have hW' := hW
  obtain ⟨p, q, hA0, hV, rfl, hfz, hnd⟩ := hW
  have hA : DataW.TrodAll enc Tryd.prog W 0 (fun _ => true) true Tryd.f3.params.toList args.toList ds p := hA0
  rw [Tryd.params3] at hA hval
  obtain ⟨v0, vs0, d0, ds0, p0, q0, hargs, rfl, rfl, h0, r0⟩ := trodAll_cons hA
  obtain ⟨v1, vs1, d1, ds1, p1, q1, rfl, rfl, rfl, h1, r1⟩ := trodAll_cons r0
  obtain ⟨v2, vs2, d2, ds2, p2, q2, rfl, rfl, rfl, h2, r2⟩ := trodAll_cons r1
  obtain ⟨rfl, rfl, rfl⟩ := trodAll_nil r2
  obtain rfl : args = #[v0, v1, v2] := by cases args; simp_all
  obtain ⟨rfl, rfl⟩ := trodVars_none hV
  have s0 : Sh.Val W (.pair (.int .i64) (.pair (.slice 2 (.pair .str (.pair (.int .i64) .unit))) (.pair (.slice 4 (.pair (.int .i64) (.pair .str (.pair .str (.pair .bool .unit))))) .unit))) v0 := shape_val (P := Tryd.prog) (m := 12) (by kernel_rfl) (hval 0 25 v0 rfl rfl) h0
  have s1 : Sh.Val W (.pair .str (.pair (.slice 1 .str) .unit)) v1 := shape_val (P := Tryd.prog) (m := 12) (by kernel_rfl) (hval 1 28 v1 rfl rfl) h1
  have s2 : Sh.Val W (.str) v2 := shape_val (P := Tryd.prog) (m := 12) (by kernel_rfl) (hval 2 9 v2 rfl rfl) h2
  clear hA0 hval0 hval hA hfz hnd hL h0 h1 h2
  have walk : Calls Tryd.prog 3 #[v0, v1, v2] W fun e W' => e = .returned (.bool true) ∧ Below W.heap.size W W' := by
    clear hW'
    obtain ⟨tag, mv, sv, l, st, rfl, hm, hs, hss⟩ := case_val s0
    obtain ⟨d, ns, hl, hd, _⟩ := cert_val s1
    obtain ⟨⟨⟨b⟩⟩, e2, hs2⟩ := s2
    obtain rfl : v2 = .string ⟨⟨b⟩⟩ := by simpa using e2
    exact checks_any mv sv _ tag l st d b ns hd (by simpa [ByteArray.size] using hs2) W hm hs hss hl hK
  refine walk.mono fun e W' ⟨he, hb⟩ => ?_
  subst he
  exact ⟨_, rfl, law_post (tb := 4) laid (by kernel_rfl) hW' rfl (by kernel_rfl) Tryd.underlying4 rfl hb⟩

theorem holds : Rows.CertChecksSaid :=
  OpenClaim.holds_of_wide 3 Tryd.f3 rfl rfl rfl rfl rfl rfl rfl ⟨rfl, rfl, rfl, rfl, rfl⟩ rfl rfl rfl rfl rfl (by kernel_rfl) Tryd.func3 (by kernel_rfl)
    (of_decide_eq_true (by kernel_rfl)) (by unfold Func.isWrapper; first | (rw [if_pos (by decide +kernel)]; kernel_rfl) | (rw [if_neg (by decide +kernel)]; exact ⟨rfl, rfl⟩))
    (fun os started H enc _ => lifted os started H enc)

theorem proved : Rows.CertChecksCardSaid :=
  Claim7.holds_tied_plain_at .later [] [.data] true (true, "cdbdc6075c461fdbb47639a556f9841efab54319b7b3f56826e502b24b1dd9b1") true
    holds (fun _ h => by cases h) (by kernel_rfl) (fun _ h => by cases h) certChecks_row_tie rfl ⟨rfl, rfl⟩ (by kernel_rfl) rfl
    (fun f fn hf hfn => by
      obtain rfl : f = 3 := Option.some.inj ((show Tryd.prog.funcNamed "pharos/pharoslaw07.CertChecks" = some 3 by kernel_rfl).symm.trans hf) |>.symm
      obtain rfl : fn = Tryd.f3 := (Option.some.inj (Tryd.func3.symm.trans hfn)).symm
      exact ⟨by kernel_rfl, fun j t ht => by
        rw [Tryd.params3] at ht
        have hm : t ∈ [25, 28, 9] := by simpa using Array.mem_of_getElem? ht
        have hall : ([25, 28, 9].all fun u => !Tryd.prog.wantsStandIn u) = true := by kernel_rfl
        exact (show Tryd.prog.wantsStandIn t = false by simpa using List.all_eq_true.1 hall t hm)⟩)
    (by kernel_rfl)

#print axioms proved
end Go.Proofs.YtbnjhfkmdejeaaaDoor.checks
