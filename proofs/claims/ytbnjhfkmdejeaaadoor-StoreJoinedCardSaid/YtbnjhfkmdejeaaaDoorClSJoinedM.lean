/- For every list of acts and two lists of numbers the statement StoreJoined returns true. No condition. -/
import Derived.Test.YtbnjhfkmdejeaaaDoorMj9
import Derived.Test.YtbnjhfkmdejeaaaDoorMg17
import Derived.Test.YtbnjhfkmdejeaaaDoorCards
import Derived.Test.YtbnjhfkmdejeaaaDoorTie
import Derived.SevenTiedAt
import Derived.Test.YtbnjhfkmdejeaaaDoorMk1
set_option linter.unusedVariables false
namespace Go.Proofs.YtbnjhfkmdejeaaaDoor.sjoined
open Go.ChangeShapes Go.WideShapes Go.ChangeAt Go.RowKit Pl

theorem own : ownKnob Tryd.prog.godebug = none := by kernel_rfl
theorem laid : laidOutB Tryd.prog = true := by kernel_rfl

set_option maxRecDepth 100000 in
theorem lifted (os : Os) (started : os.Started) (H : Type) (enc : TypeId × Value → H) :
    ReturnsInHanded {} Tryd.checked os 8 .any (fun w args => (Rows.storeJoinedSpec.pre enc Tryd.prog Tryd.f8 [] false w args ∧ laidMetH Tryd.prog [("pharos/sha.k", Rows.laid_pharos_sha_k)] w) ∧ sizedMet enc Tryd.prog Tryd.f8 (OpenSpec.ofChange Rows.storeJoinedSpec) false w args) (Rows.storeJoinedSpec.post enc Tryd.prog Tryd.f8 false true false false) := by
  refine returnsInHanded_of_change_and (C := Tryd.checked) (X := fun w _ => laidMetH Tryd.prog [("pharos/sha.k", Rows.laid_pharos_sha_k)] w) (fun _ _ _ hh h => h.of_heap hh) own started (by kernel_rfl) Tryd.func8
    (ChangeSpec.witness_shaped (enc := enc) (C := Tryd.checked) (os := os) (X := fun w _ => laidMetH Tryd.prog [("pharos/sha.k", Rows.laid_pharos_sha_k)] w) false (World.doorLaid Tryd.prog 14 os) #[.slice none 0 0, .slice none 0 0, .slice none 0 0] 8 rfl (World.shaped_of_RefB (by kernel_rfl) (by kernel_rfl)) (by kernel_rfl) (by kernel_rfl) (by kernel_rfl) (laid_door os _)) ?_
  intro W base args ds gs before hval0 hW _ _ hL _
  have hK : KT W := kt_of_laid hL
  have hval : ∀ (j : Nat) t v, Tryd.f8.params[j]? = some t → args[j]? = some v → Value.okWide Tryd.prog W .any base t v := hval0
  have hW' := hW
  obtain ⟨p, q, hA0, hV, rfl, hfz, hnd⟩ := hW
  have hA : DataW.TrodAll enc Tryd.prog W 0 (fun _ => true) true Tryd.f8.params.toList args.toList ds p := hA0
  rw [Tryd.params8] at hA hval
  obtain ⟨v0, vs0, d0, ds0, p0, q0, hargs, rfl, rfl, h0, r0⟩ := trodAll_cons hA
  obtain ⟨v1, vs1, d1, ds1, p1, q1, rfl, rfl, rfl, h1, r1⟩ := trodAll_cons r0
  obtain ⟨v2, vs2, d2, ds2, p2, q2, rfl, rfl, rfl, h2, r2⟩ := trodAll_cons r1
  obtain ⟨rfl, rfl, rfl⟩ := trodAll_nil r2
  obtain rfl : args = #[v0, v1, v2] := by cases args; simp_all
  obtain ⟨rfl, rfl⟩ := trodVars_none hV
  have s0 : Sh.Val W (.slice 4 (.pair (.int .i64) (.pair .str (.pair (.pair (.int .i64) (.pair (.int .i64) .unit)) .unit)))) v0 := shape_val (P := Tryd.prog) (m := 12) (by kernel_rfl) (hval 0 60 v0 rfl rfl) h0
  have s1 : Sh.Val W (.slice 1 (.int .i64)) v1 := shape_val (P := Tryd.prog) (m := 12) (by kernel_rfl) (hval 1 68 v1 rfl rfl) h1
  have s2 : Sh.Val W (.slice 1 (.int .i64)) v2 := shape_val (P := Tryd.prog) (m := 12) (by kernel_rfl) (hval 2 68 v2 rfl rfl) h2
  clear hA0 hval0 hval hA hfz hnd hL h0 h1 h2
  have walk : Calls Tryd.prog 8 #[v0, v1, v2] W fun e W' => e = .returned (.bool true) ∧ Below W.heap.size W W' := by
    clear hW'
    obtain ⟨l, hv, hsh⟩ := act_val s0
    obtain ⟨al, h1⟩ := is_val s1
    obtain ⟨bl, h2⟩ := is_val s2
    exact stojoined_any _ _ _ l al bl hsh W hK hv h1 h2
  refine walk.mono fun e W' ⟨he, hb⟩ => ?_
  subst he
  exact ⟨_, rfl, law_post (tb := 4) laid (by kernel_rfl) hW' rfl (by kernel_rfl) Tryd.underlying4 rfl hb⟩

theorem holds : Rows.StoreJoinedSaid :=
  OpenClaim.holds_of_wide 8 Tryd.f8 rfl rfl rfl rfl rfl rfl rfl ⟨rfl, rfl, rfl, rfl, rfl⟩ rfl rfl rfl rfl rfl (by kernel_rfl) Tryd.func8 (by kernel_rfl)
    (of_decide_eq_true (by kernel_rfl)) (by unfold Func.isWrapper; first | (rw [if_pos (by decide +kernel)]; kernel_rfl) | (rw [if_neg (by decide +kernel)]; exact ⟨rfl, rfl⟩))
    (fun os started H enc _ => lifted os started H enc)

theorem proved : Rows.StoreJoinedCardSaid :=
  Claim7.holds_tied_plain_at .later [] [.data] true (true, "cdbdc6075c461fdbb47639a556f9841efab54319b7b3f56826e502b24b1dd9b1") true
    holds (fun _ h => by cases h) (by kernel_rfl) (fun _ h => by cases h) storeJoined_row_tie rfl ⟨rfl, rfl⟩ (by kernel_rfl) rfl
    (fun f fn hf hfn => by
      obtain rfl : f = 8 := Option.some.inj ((show Tryd.prog.funcNamed "pharos/pharoslaw09.StoreJoined" = some 8 by kernel_rfl).symm.trans hf) |>.symm
      obtain rfl : fn = Tryd.f8 := (Option.some.inj (Tryd.func8.symm.trans hfn)).symm
      exact ⟨by kernel_rfl, fun j t ht => by
        rw [Tryd.params8] at ht
        have hm : t ∈ [60, 68, 68] := by simpa using Array.mem_of_getElem? ht
        have hall : ([60, 68, 68].all fun u => !Tryd.prog.wantsStandIn u) = true := by kernel_rfl
        exact (show Tryd.prog.wantsStandIn t = false by simpa using List.all_eq_true.1 hall t hm)⟩)
    (by kernel_rfl)

#print axioms proved
end Go.Proofs.YtbnjhfkmdejeaaaDoor.sjoined
