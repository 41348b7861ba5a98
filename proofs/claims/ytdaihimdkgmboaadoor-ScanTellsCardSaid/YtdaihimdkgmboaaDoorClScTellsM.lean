/- For every list of items, two ends and a number the statement ScanTells returns true. No condition. -/
import Derived.Test.YtdaihimdkgmboaaDoorMh1
import Derived.Test.YtdaihimdkgmboaaDoorMg13
import Derived.Test.YtdaihimdkgmboaaDoorCards
import Derived.Test.YtdaihimdkgmboaaDoorTie
import Derived.SevenTiedAt
import Derived.Test.YtdaihimdkgmboaaDoorMj2
set_option linter.unusedVariables false
namespace Go.Proofs.YtdaihimdkgmboaaDoor.sctells
open Go.ChangeShapes Go.WideShapes Go.ChangeAt Go.RowKit Pl

theorem own : ownKnob Tryd.prog.godebug = none := by kernel_rfl
theorem laid : laidOutB Tryd.prog = true := by kernel_rfl

set_option maxRecDepth 100000 in
theorem lifted (os : Os) (started : os.Started) (H : Type) (enc : TypeId × Value → H) :
    ReturnsInHanded {} Tryd.checked os 4 .any (fun w args => (Rows.scanTellsSpec.pre enc Tryd.prog Tryd.f4 [] false w args ∧ laidMetH Tryd.prog [("pharos/sha.k", Rows.laid_pharos_sha_k)] w) ∧ sizedMet enc Tryd.prog Tryd.f4 (OpenSpec.ofChange Rows.scanTellsSpec) false w args) (Rows.scanTellsSpec.post enc Tryd.prog Tryd.f4 false true false false) := by
  refine returnsInHanded_of_change_and (C := Tryd.checked) (X := fun w _ => laidMetH Tryd.prog [("pharos/sha.k", Rows.laid_pharos_sha_k)] w) (fun _ _ _ hh h => h.of_heap hh) own started (by kernel_rfl) Tryd.func4
    (ChangeSpec.witness_shaped (enc := enc) (C := Tryd.checked) (os := os) (X := fun w _ => laidMetH Tryd.prog [("pharos/sha.k", Rows.laid_pharos_sha_k)] w) false (World.doorLaid Tryd.prog 14 os) #[.slice none 0 0, .agg #[.string ⟨#[]⟩, .string ⟨#[]⟩], .int .i64 0] 8 rfl (World.shaped_of_RefB (by kernel_rfl) (by kernel_rfl)) (by kernel_rfl) (by kernel_rfl) (by kernel_rfl) (laid_door os _)) ?_
  intro W base args ds gs before hval0 hW _ _ hL _
  have hK : KT W := kt_of_laid hL
  have hval : ∀ (j : Nat) t v, Tryd.f4.params[j]? = some t → args[j]? = some v → Value.okWide Tryd.prog W .any base t v := hval0
  have hW' := hW
  obtain ⟨p, q, hA0, hV, rfl, hfz, hnd⟩ := hW
  have hA : DataW.TrodAll enc Tryd.prog W 0 (fun _ => true) true Tryd.f4.params.toList args.toList ds p := hA0
  rw [Tryd.params4] at hA hval
  obtain ⟨v0, vs0, d0, ds0, p0, q0, hargs, rfl, rfl, h0, r0⟩ := trodAll_cons hA
  obtain ⟨v1, vs1, d1, ds1, p1, q1, rfl, rfl, rfl, h1, r1⟩ := trodAll_cons r0
  obtain ⟨v2, vs2, d2, ds2, p2, q2, rfl, rfl, rfl, h2, r2⟩ := trodAll_cons r1
  obtain ⟨rfl, rfl, rfl⟩ := trodAll_nil r2
  obtain rfl : args = #[v0, v1, v2] := by cases args; simp_all
  obtain ⟨rfl, rfl⟩ := trodVars_none hV
  have s0 : Sh.Val W (.slice 2 (.pair .str (.pair .str .unit))) v0 := shape_val (P := Tryd.prog) (m := 12) (by kernel_rfl) (hval 0 25 v0 rfl rfl) h0
  have s1 : Sh.Val W (.pair .str (.pair .str .unit)) v1 := shape_val (P := Tryd.prog) (m := 12) (by kernel_rfl) (hval 1 26 v1 rfl rfl) h1
  have s2 : Sh.Val W (.int .i64) v2 := shape_val (P := Tryd.prog) (m := 12) (by kernel_rfl) (hval 2 3 v2 rfl rfl) h2
  clear hA0 hval0 hval hA hfz hnd hL h0 h1 h2
  have walk : Calls Tryd.prog 4 #[v0, v1, v2] W fun e W' => e = .returned (.bool true) ∧ Below W.heap.size W W' := by
    clear hW'
    obtain ⟨l, hv, hsh⟩ := item_val s0
    obtain ⟨a, b, rfl, _, _⟩ := ends2_val s1
    obtain ⟨mo, rfl, _, _⟩ := int_val' s2
    exact scantells_any _ l hsh a b mo W hK hv
  refine walk.mono fun e W' ⟨he, hb⟩ => ?_
  subst he
  exact ⟨_, rfl, law_post (tb := 4) laid (by kernel_rfl) hW' rfl (by kernel_rfl) Tryd.underlying4 rfl hb⟩

theorem holds : Rows.ScanTellsSaid :=
  OpenClaim.holds_of_wide 4 Tryd.f4 rfl rfl rfl rfl rfl rfl rfl ⟨rfl, rfl, rfl, rfl, rfl⟩ rfl rfl rfl rfl rfl (by kernel_rfl) Tryd.func4 (by kernel_rfl)
    (of_decide_eq_true (by kernel_rfl)) (by unfold Func.isWrapper; first | (rw [if_pos (by decide +kernel)]; kernel_rfl) | (rw [if_neg (by decide +kernel)]; exact ⟨rfl, rfl⟩))
    (fun os started H enc _ => lifted os started H enc)

theorem proved : Rows.ScanTellsCardSaid :=
  Claim7.holds_tied_plain_at .later [] [.data] true (true, "d03a93f8adc9da84b6b764d9169d6272e6da0a40ccc3bd62b81012dcd1d083a7") true
    holds (fun _ h => by cases h) (by kernel_rfl) (fun _ h => by cases h) scanTells_row_tie rfl ⟨rfl, rfl⟩ (by kernel_rfl) rfl
    (fun f fn hf hfn => by
      obtain rfl : f = 4 := Option.some.inj ((show Tryd.prog.funcNamed "pharos/pharoslaw11.ScanTells" = some 4 by kernel_rfl).symm.trans hf) |>.symm
      obtain rfl : fn = Tryd.f4 := (Option.some.inj (Tryd.func4.symm.trans hfn)).symm
      exact ⟨by kernel_rfl, fun j t ht => by
        rw [Tryd.params4] at ht
        have hm : t ∈ [25, 26, 3] := by simpa using Array.mem_of_getElem? ht
        have hall : ([25, 26, 3].all fun u => !Tryd.prog.wantsStandIn u) = true := by kernel_rfl
        exact (show Tryd.prog.wantsStandIn t = false by simpa using List.all_eq_true.1 hall t hm)⟩)
    (by kernel_rfl)

#print axioms proved
end Go.Proofs.YtdaihimdkgmboaaDoor.sctells
