/- Reach9, Keep9, EqNode, Tells9. -/
import Derived.Deep.OwnRows
import Derived.Test.YtdddcncjmnekcaaGreatDoorMg13
import Derived.Test.YtdddcncjmnekcaaGreatDoorMg20
import Derived.Test.YtdddcncjmnekcaaGreatDoorMg23
import Derived.Test.YtdddcncjmnekcaaGreatDoorMg24
set_option linter.unnecessarySimpa false

/- Walks of the document's answer for layer 9: what is reached. -/
set_option linter.unusedSimpArgs false
set_option linter.unusedVariables false
namespace Go.Proofs.YtdddcncjmnekcaaGreatDoor
open Go.RowKit Pl

theorem infoBoo : (Tryz.prog.info? 4).map (fun i => (i.zero, i.size, i.bytes)) = some (some (.bool false), 1, 1) := by kernel_rfl
/-- Cells of marks. -/
def bC (M : List Bool) : Array Value := (M.map Value.bool).toArray
theorem bC_made (n : Nat) : madeCells #[Value.bool false] n = bC (List.replicate n false) := by
  apply Array.ext'
  unfold madeCells bC
  simp only [Array.toList_map, Array.toList_range, List.map_replicate]
  apply List.ext_getElem
  · simp
  · intro i h1 h2
    simp [Nat.mod_one]
theorem Blk.bget {w : World} {g : Nat} {M : List Bool} (h : Blk w g (bC M)) {i : Nat} (hi : i < M.length) : w.cell? ⟨g, i, none⟩ = some (.bool (M.getD i false)) := by
  rw [h.cell]
  simp [bC, List.getD, hi]
theorem Blk.bset {w : World} {g : Nat} {M : List Bool} (h : Blk w g (bC M)) (i : Nat) : Blk (w.setCell ⟨g, i, none⟩ (.bool true)) g (bC (M.set i true)) := by
  have h2 := h.set i (.bool true)
  rw [show bC (M.set i true) = (bC M).setIfInBounds i (.bool true) from by unfold bC; simp]
  exact h2
theorem mark_in {l : List It} {M : List Bool} {k : Bs} (h : hereI k l = true) : mark1 l M k = M.set (atI k l) true := if_pos h
theorem mark_out {l : List It} {M : List Bool} {k : Bs} (h : hereI k l = false) : mark1 l M k = M := by unfold mark1; rw [h]; rfl
theorem rounds_succ (l : List It) (M : List Bool) (r : Nat) : rounds l M (r + 1) = roundU l (rounds l M r) l.length := rfl
theorem take_snoc (l : List Bs) (i : Nat) (hi : i < l.length) : l.take (i + 1) = l.take i ++ [l.getD i []] := by
  rw [List.take_add_one, List.getElem?_eq_getElem hi, List.getD_eq_getElem?_getD, List.getElem?_eq_getElem hi]
  rfl

set_option maxRecDepth 100000 in
set_option maxHeartbeats 4000000 in
theorem dreach_any (val : Value) (l : List (Bs × Bs)) (hl : l.length ≤ 1000) (hsh : ∀ i, i < l.length → (txtI l i).length ≤ 1000) (u : Value) (S : List Bs) (w : World) (hv : NL w val l) (hu : SS w u S) :
    Calls Tryz.prog 16 #[val, u] w fun e w' => ∃ v, e = .returned v ∧ SRow w' w.heap.size v (outM l (endM l S) l.length) ∧ Below w.heap.size w w' := by
  obtain ⟨va, vc, rfl⟩ := hv.form
  obtain ⟨ua, uc, rfl⟩ := hu.form
  have hSm := hu.small
  have HV := Lib.hid hv
  have HU := Lib.hid hu
  have HSH := Lib.hid hsh
  have hmk := fun W => run_make_row' (P := Tryz.prog) 73 4 (.bool false) 1 Tryz.underlying73 infoBoo rfl .i64 .i64 l.length (by omega) (by omega) W
  have hB0 : Blk (w.alloc (.cells (madeCells #[.bool false] l.length) 4)) w.heap.size (bC (List.replicate l.length false)) := by
    rw [bC_made]; exact Blk.new _ _ _
  have hb0 : Below w.heap.size w (w.alloc (.cells (madeCells #[.bool false] l.length) 4)) := Below.allocS (Below.refl _ _) _
  have HST : Hid (startM l S = markL l (List.replicate l.length false) S) := Lib.hid rfl
  have hR0 : (List.replicate l.length false).length = l.length := by simp
  have HR0 := Lib.hid hR0
  clear hv hu hsh hR0
  generalize List.replicate l.length false = R0 at *
  go_enter Tryz.func16, Tryz.ntmps16
  go_wp2_with fail
  go_loopw [6] (fun s6 wr => ∃ i : Nat, s6 = .int .i64 (i) ∧ i ≤ S.length ∧ Blk wr w.heap.size (bC (markL l R0 (S.take i))) ∧ Below w.heap.size w wr) (fun s6 _ => S.length - (intOf s6).toNat)
  case atStart => exact ⟨0, rfl, Nat.zero_le _, hB0, hb0⟩
  case round =>
    obtain ⟨i, rfl, hi, hB, hb⟩ := hrel
    obtain ⟨wr, h⟩ := Below.name' hb
    subst h
    clear hB0 hb0 hmk
    by_cases hlt : i < S.length
    · have i1 : decide ((i : Int) < (S.length : Int)) = true := by simp; omega
      have i0 : 0 ≤ (i : Int) ∧ (i : Int) < (S.length : Int) := by omega
      obtain ⟨g, off, e1, hg, c1⟩ := (HU.out.keep hb).at' i hlt
      subst e1
      have HNX : Hid (markL l R0 (S.take (i + 1)) = mark1 l (markL l R0 (S.take i)) (S.getD i [])) := Lib.hid (by rw [take_snoc S i hlt, markL_snoc])
      have hML : (markL l R0 (S.take i)).length = l.length := by rw [markL_len, HR0.out]
      have hat := dat_any _ l (S.getD i []) _ (HV.out.keep hb)
      generalize S.getD i [] = x at *
      generalize markL l R0 (S.take i) = M at *
      unfold At9Out at hat
      cases hh : hereI x l
      · rw [hh] at hat
        have HM := Lib.hid (mark_out (M := M) hh)
        clear hh hlt
        go_wp2_with fail
        refine hat.mono ?_
        rintro e w2 ⟨rfl, n2, rfl⟩
        go_wp2_with fail
        exact ⟨⟨i + 1, by go_num, by omega, by rw [HNX.out, HM.out]; exact hB.drewN n2, below_drewN hb n2⟩, by simp [intOf]; omega⟩
      · rw [hh] at hat
        have HM := Lib.hid (mark_in (M := M) hh)
        have hal := (here_key hh).1
        clear hh hlt
        generalize atI x l = a at *
        have a0 : 0 ≤ (a : Int) ∧ (a : Int) < (l.length : Int) := by omega
        have c2 : ∀ n, (wr.drewN n).cell? ⟨w.heap.size, a, none⟩ = some (.bool (M.getD a false)) := fun n => (hB.drewN n).bget (by omega)
        have c3 : ∀ n, (wr.drewN n).frozen? ⟨w.heap.size, a, none⟩ = false := fun n => (hB.drewN n).froz a
        go_wp2_with fail
        refine hat.mono ?_
        rintro e w2 ⟨rfl, n2, rfl⟩
        replace c2 := c2 n2
        replace c3 := c3 n2
        go_wp2_with fail
        exact ⟨⟨i + 1, by go_num, by omega, by rw [HNX.out, HM.out]; exact (hB.drewN n2).bset a, (below_drewN hb n2).setCell (Nat.le_refl _) _⟩, by simp [intOf]; omega⟩
    · have e : i = S.length := by omega
      subst e
      rw [List.take_length, ← HST.out] at hB
      have HSL := Lib.hid (startM_len l S)
      have HE : Hid (endM l S = rounds l (startM l S) l.length) := Lib.hid rfl
      generalize startM l S = M0 at *
      generalize hME : endM l S = ME at *
      have HME := Lib.hid hME
      clear hME
      clear HST HR0 HU hlt
      go_wp2_with fail
      go_loopw [42] (fun s42 wr => ∃ r : Nat, s42 = .int .i64 (r) ∧ r ≤ l.length ∧ Blk wr w.heap.size (bC (rounds l M0 r)) ∧ Below w.heap.size w wr) (fun s42 _ => l.length - (intOf s42).toNat)
      case atStart => exact ⟨0, rfl, Nat.zero_le _, hB, hb⟩
      case round =>
        clear hB hb
        obtain ⟨r, rfl, hr, hB, hb⟩ := hrel
        obtain ⟨wr2, h⟩ := Below.name' hb
        subst h
        by_cases hlt : r < l.length
        · have HLR := Lib.hid hlt
          have i1 : decide ((r : Int) < (l.length : Int)) = true := by simp; omega
          have HNX := Lib.hid (rounds_succ l M0 r)
          have HML : Hid ((rounds l M0 r).length = l.length) := Lib.hid (by rw [rounds_len, HSL.out])
          generalize rounds l M0 r = M1 at *
          go_wp2_with fail
          go_loopw [9] (fun s9 wr => ∃ i : Nat, s9 = .int .i64 (i) ∧ i ≤ l.length ∧ Blk wr w.heap.size (bC (roundU l M1 i)) ∧ Below w.heap.size w wr) (fun s9 _ => l.length - (intOf s9).toNat)
          case atStart => exact ⟨0, rfl, Nat.zero_le _, hB, hb⟩
          case round =>
            clear hB hb
            obtain ⟨i, rfl, hi, hB, hb⟩ := hrel
            obtain ⟨wr3, h⟩ := Below.name' hb
            subst h
            clear i1 hlt
            by_cases hlt : i < l.length
            · have i1 : decide ((i : Int) < (l.length : Int)) = true := by simp; omega
              have i0 : 0 ≤ (i : Int) ∧ (i : Int) < (l.length : Int) := by omega
              obtain ⟨g, off, e1, hg, c0, c1, c00⟩ := (HV.out.keep hb).at i hlt
              subst e1
              have hts := HSH.out i hlt
              have HSU := Lib.hid (roundU_succ l M1 i)
              have HMU : Hid ((roundU l M1 i).length = l.length) := Lib.hid (by rw [roundU_len, HML.out])
              have HKD : Hid (kidI l i = if (dec (txtI l i)).2 = 0 then kidsF (dec (txtI l i)).1.kid else []) := Lib.hid rfl
              have HR1 : Hid (∀ M, round1 l M i = if M.getD i false then markL l M (kidI l i) else M) := Lib.hid (fun _ => rfl)
              have hde := rdecode_any (txtI l i) (by omega) wr3
              have c1' : wr3.cell? ⟨g, off + i * 3 + 1, none⟩ = some (.string ⟨List.toArray (txtI l i)⟩) := c1
              clear c0 c1 c00
              generalize roundU l M1 i = M at *
              generalize txtI l i = t at *
              generalize dec t = dt at *
              obtain ⟨⟨kd, pa, va', kk⟩, code⟩ := dt
              simp only at hde
              have c2 := hB.bget (i := i) (by rw [HMU.out]; exact hlt)
              have HLT := Lib.hid hlt
              have H3 : M.getD i false = false ∨ (M.getD i false = true ∧ code ≠ 0) ∨ (M.getD i false = true ∧ code = 0) := by
                cases M.getD i false
                · exact .inl rfl
                · rcases Classical.em (code = 0) with h | h
                  · exact .inr (.inr ⟨rfl, h⟩)
                  · exact .inr (.inl ⟨rfl, h⟩)
              rcases H3 with hm | ⟨hm, hc⟩ | ⟨hm, hc⟩
              · have HMI := Lib.hid hm
                have HM : Hid (round1 l M i = M) := Lib.hid (by rw [HR1.out, hm]; rfl)
                clear hm
                go_wp2_with fail
                refine hde.mono ?_
                rintro e w2 ⟨rfl, hb2⟩
                have hbb := hb.trans (hb2.mono hb.size)
                have hB2 := hB.keep hb2
                clear hde hb2 c1' c2 hB
                go_wp2_with (refine wpList_nodeStore rfl rfl (.tmp 10) (.tmp 57) rfl rfl (kind := kd) (path := pa) (val := va') (kid := kk) rfl (k2 := 0) (p2 := []) (v2 := []) (kid2 := noK) (Blk.new' (by simp)) ?_; intro w4 N4 m4; have hb4 : Below w.heap.size w w4 := Below.mod (Below.allocS hbb _) m4 (by simp; have := hbb.size; omega) (by simp; exact hbb.size); have hB4 : Blk w4 w.heap.size (bC M) := (hB2.alloc _).mod m4 (by have := hB2.lt; simp; omega); have c4 := hB4.bget (i := i) (by rw [HMU.out]; exact HLT.out); rw [HMI.out] at c4; clear m4 hB2 hbb)
                exact ⟨⟨i + 1, by go_num, by have := HLT.out; omega, by rw [HSU.out, HM.out]; exact hB4, hb4⟩, by have := HLT.out; simp [intOf]; omega⟩
              · have HMI := Lib.hid hm
                have ez : (code != 0) = true := by simpa using hc
                have HM2 : Hid (round1 l M i = M) := Lib.hid (by rw [HR1.out, hm, HKD.out, if_neg hc]; rfl)
                clear hm hc
                go_wp2_with fail
                refine hde.mono ?_
                rintro e w2 ⟨rfl, hb2⟩
                have hbb := hb.trans (hb2.mono hb.size)
                have hB2 := hB.keep hb2
                clear hde hb2 c1' c2 hB
                go_wp2_with (refine wpList_nodeStore rfl rfl (.tmp 10) (.tmp 57) rfl rfl (kind := kd) (path := pa) (val := va') (kid := kk) rfl (k2 := 0) (p2 := []) (v2 := []) (kid2 := noK) (Blk.new' (by simp)) ?_; intro w4 N4 m4; have hb4 : Below w.heap.size w w4 := Below.mod (Below.allocS hbb _) m4 (by simp; have := hbb.size; omega) (by simp; exact hbb.size); have hB4 : Blk w4 w.heap.size (bC M) := (hB2.alloc _).mod m4 (by have := hB2.lt; simp; omega); have c4 := hB4.bget (i := i) (by rw [HMU.out]; exact HLT.out); rw [HMI.out] at c4; clear m4 hB2 hbb)
                exact ⟨⟨i + 1, by go_num, by have := HLT.out; omega, by rw [HSU.out, HM2.out]; exact hB4, hb4⟩, by have := HLT.out; simp [intOf]; omega⟩
              have HMI := Lib.hid hm
              subst hc
              have HM : Hid (round1 l M i = markL l M (kidI l i)) := Lib.hid (by rw [HR1.out, hm]; rfl)
              have hkc := fun W => rkids_any kd pa va' kk W
              rw [show kidsF kk = kidI l i from by rw [HKD.out, if_pos rfl]] at hkc
              have hks : (kidI l i).length ≤ 16 := by rw [← show kidsF kk = kidI l i from by rw [HKD.out, if_pos rfl]]; exact kidsTo_len _ 16
              clear hm HKD
              generalize kidI l i = ks at *
              go_wp2_with fail
              refine hde.mono ?_
              rintro e w2 ⟨rfl, hb2⟩
              have hbb := hb.trans (hb2.mono hb.size)
              have hB2 := hB.keep hb2
              clear hde hb2 c1' c2 hB
              go_wp2_with (first | (refine wpList_nodeStore rfl rfl (.tmp 10) (.tmp 57) rfl rfl (kind := kd) (path := pa) (val := va') (kid := kk) rfl (k2 := 0) (p2 := []) (v2 := []) (kid2 := noK) (Blk.new' (by simp)) ?_; intro w4 N4 m4; have hb4 : Below w.heap.size w w4 := Below.mod (Below.allocS hbb _) m4 (by simp; have := hbb.size; omega) (by simp; exact hbb.size); have hB4 : Blk w4 w.heap.size (bC M) := (hB2.alloc _).mod m4 (by have := hB2.lt; simp; omega); have c4 := hB4.bget (i := i) (by rw [HMU.out]; exact HLT.out); rw [HMI.out] at c4; clear m4 hB2 hbb) | (refine wpList_node rfl (.tmp 10) rfl rfl N4 ?_))
              refine (hkc _).mono ?_
              rintro e w5 ⟨xa, xc, rfl, hk5, hb5⟩
              have hbb5 := hb4.trans (hb5.mono hb4.size)
              have hB5 := hB4.keep hb5
              have hk5' : SRow w5 (w.heap.size + 1) (.slice xa ks.length xc) ks := SRow.low hk5 (by have := hB4.lt; omega)
              clear hkc hb5 hk5 hb4 hB4 N4 c4
              go_wp2_with fail
              go_loopw [13] (fun s13 wr => ∃ k : Nat, s13 = .int .i64 (k) ∧ k ≤ ks.length ∧ Blk wr w.heap.size (bC (markL l M (ks.take k))) ∧ Below w.heap.size w wr ∧ SRow wr (w.heap.size + 1) (.slice xa ks.length xc) ks) (fun s13 _ => ks.length - (intOf s13).toNat)
              case atStart => exact ⟨0, rfl, Nat.zero_le _, hB5, hbb5, hk5'⟩
              case round =>
                clear hB5 hbb5 hk5'
                obtain ⟨k, rfl, hk, hB, hb, hkr⟩ := hrel
                obtain ⟨wr4, h⟩ := Below.name' hb
                subst h
                clear i1 i0
                by_cases hlk : k < ks.length
                · have HLK := Lib.hid hlk
                  have i1 : decide ((k : Int) < (ks.length : Int)) = true := by simp; omega
                  have i0 : 0 ≤ (k : Int) ∧ (k : Int) < (ks.length : Int) := by omega
                  obtain ⟨g, off, e1, hg, c1⟩ := hkr.ss.at' k hlk
                  subst e1
                  have HNX2 : Hid (markL l M (ks.take (k + 1)) = mark1 l (markL l M (ks.take k)) (ks.getD k [])) := Lib.hid (by rw [take_snoc ks k hlk, markL_snoc])
                  have hML : (markL l M (ks.take k)).length = l.length := by rw [markL_len, HMU.out]
                  have hat := dat_any _ l (ks.getD k []) _ (HV.out.keep hb)
                  generalize ks.getD k [] = x at *
                  generalize markL l M (ks.take k) = MK at *
                  unfold At9Out at hat
                  cases hh : hereI x l
                  · rw [hh] at hat
                    have HMK := Lib.hid (mark_out (M := MK) hh)
                    clear hh hlk
                    go_wp2_with fail
                    refine hat.mono ?_
                    rintro e w6 ⟨rfl, n6, rfl⟩
                    go_wp2_with fail
                    exact ⟨⟨k + 1, by go_num, by have := HLK.out; omega, by rw [HNX2.out, HMK.out]; exact hB.drewN n6, below_drewN hb n6, hkr.drewN n6⟩, by have := HLK.out; simp [intOf]; omega⟩
                  · rw [hh] at hat
                    have HMK := Lib.hid (mark_in (M := MK) hh)
                    have hal := (here_key hh).1
                    clear hh hlk
                    generalize atI x l = a at *
                    have a0 : 0 ≤ (a : Int) ∧ (a : Int) < (l.length : Int) := by omega
                    have c2 : ∀ n, (wr4.drewN n).cell? ⟨w.heap.size, a, none⟩ = some (.bool (MK.getD a false)) := fun n => (hB.drewN n).bget (by omega)
                    have c3 : ∀ n, (wr4.drewN n).frozen? ⟨w.heap.size, a, none⟩ = false := fun n => (hB.drewN n).froz a
                    go_wp2_with fail
                    refine hat.mono ?_
                    rintro e w6 ⟨rfl, n6, rfl⟩
                    replace c2 := c2 n6
                    replace c3 := c3 n6
                    go_wp2_with fail
                    refine ⟨⟨k + 1, by go_num, by have := HLK.out; omega, by rw [HNX2.out, HMK.out]; exact (hB.drewN n6).bset a, (below_drewN hb n6).setCell (Nat.le_refl _) _, ?_⟩, by have := HLK.out; simp [intOf]; omega⟩
                    exact SRow.mod (hkr.drewN n6) ((Mod.refl [w.heap.size] _).setCell (.inl (by simp)) _) (by omega)
                · have e : k = ks.length := by omega
                  subst e
                  rw [List.take_length, ← HM.out, ← HSU.out] at hB
                  clear hlk
                  go_wp2_with fail
                  exact ⟨⟨i + 1, by go_num, by omega, hB, hb⟩, by simp [intOf]; omega⟩
            · have e : i = l.length := by omega
              subst e
              rw [← HNX.out] at hB
              clear hlt
              go_wp2_with fail
              exact ⟨⟨r + 1, by go_num, by have := HLR.out; omega, hB, hb⟩, by have := HLR.out; simp [intOf]; omega⟩
        · have e : r = l.length := by omega
          subst e
          rw [← HE.out] at hB
          have HEL : Hid (ME.length = l.length) := Lib.hid (by rw [HE.out, rounds_len, HSL.out])
          clear hlt
          go_wp2_with fail
          go_loopw [16, 17] (fun s16 s17 wr => ∃ i : Nat, s17 = .int .i64 (i) ∧ i ≤ l.length ∧ Blk wr w.heap.size (bC ME) ∧ SRow wr (w.heap.size + 1) s16 (outM l ME i) ∧ (outM l ME i).length ≤ i ∧ Below w.heap.size w wr) (fun _ s17 _ => l.length - (intOf s17).toNat)
          case atStart => exact ⟨0, rfl, Nat.zero_le _, hB, SRow.nil _ _, Nat.le_refl _, hb⟩
          case round =>
            clear hB hb
            obtain ⟨i, rfl, hi, hB, hr, hol, hb⟩ := hrel
            obtain ⟨wr5, h⟩ := Below.name' hb
            subst h
            obtain ⟨xa, xc, rfl⟩ := hr.form
            by_cases hlt : i < l.length
            · have i1 : decide ((i : Int) < (l.length : Int)) = true := by simp; omega
              have i0 : 0 ≤ (i : Int) ∧ (i : Int) < (l.length : Int) := by omega
              obtain ⟨g, off, e1, hg, c0, c00, c1⟩ := (HV.out.keep hb).at i hlt
              subst e1
              have c2 := hB.bget (i := i) (by rw [HEL.out]; exact hlt)
              have HSU := Lib.hid (outM_succ l ME i)
              have c1' : wr5.cell? ⟨g, off + i * 3 + 2, none⟩ = some (.string ⟨List.toArray (keyI l i)⟩) := c1
              have hgb : w.heap.size + 1 ≤ wr5.heap.size := by have := hB.lt; omega
              clear c0 c00 c1
              generalize keyI l i = x at *
              by_cases hm : ME.getD i false = true
              · rw [hm] at c2
                have HO : Hid (outM l ME (i + 1) = outM l ME i ++ [x]) := Lib.hid (by rw [HSU.out, if_pos hm])
                clear hm HSU
                generalize outM l ME i = X at *
                go_wp2_with (first
                  | (at_builtin; refine wpList_appS rfl (.tmp 100) (.tmp 106) rfl (w.heap.size + 1) _ X rfl (hr.keep (Below.allocS (Below.refl _ _) _)) wr5.heap.size 0 1 1 [x] rfl rfl (ssrc1 _ _ _) (by omega) (by simp; omega) ?_; rintro v2 w2 hS2 hb2)
                  | fail)
                have hal : Below wr5.heap.size wr5 (wr5.alloc (.cells #[.string ⟨List.toArray (x)⟩] 9)) := Below.allocS (Below.refl _ _) _
                have hb12 : Below (w.heap.size + 1) wr5 w2 := (hal.mono hgb).trans hb2
                exact ⟨⟨i + 1, by go_num, by omega, hB.of_block (hb12.block _ (by omega)) hb12.size, by rw [HO.out]; exact hS2, by rw [HO.out, List.length_append]; simp; omega, hb.trans (hb12.mono (by omega))⟩, by simp [intOf]; omega⟩
              · have hm' : ME.getD i false = false := by simpa using hm
                rw [hm'] at c2
                have HO : Hid (outM l ME (i + 1) = outM l ME i) := Lib.hid (by rw [HSU.out, if_neg hm])
                clear hm hm' HSU
                go_wp2_with fail
                exact ⟨⟨i + 1, by go_num, by omega, hB, by rw [HO.out]; exact hr, by rw [HO.out]; omega, hb⟩, by simp [intOf]; omega⟩
            · have e : i = l.length := by omega
              subst e
              clear hlt
              go_wp2_with fail
              go_ret
              exact ⟨_, rfl, by rw [HME.out]; exact SRow.low (c := w.heap.size) hr (Nat.le_succ _), hb⟩
end Go.Proofs.YtdddcncjmnekcaaGreatDoor

/- Walks of the document's answer for layer 9: what is kept. -/
set_option linter.unusedSimpArgs false
set_option linter.unusedVariables false
namespace Go.Proofs.YtdddcncjmnekcaaGreatDoor
open Go.RowKit Pl

theorem NRow.low {w : World} {b c : Nat} {v : Value} {l : List (Bs × Bs)} (h : NRow w b v l) (hc : c ≤ b) : NRow w c v l := by
  refine ⟨h.1, h.2.imp id ?_⟩
  rintro ⟨g, cap, cur, hv, h1, h2⟩
  exact ⟨g, cap, cur, hv, Nat.le_trans hc h1, h2⟩
set_option maxRecDepth 100000 in
set_option maxHeartbeats 4000000 in
theorem dkeep_any (val : Value) (l : List (Bs × Bs)) (hl : l.length ≤ 1000) (hsh : ∀ i, i < l.length → (txtI l i).length ≤ 1000) (u : Value) (S : List Bs) (w : World) (hv : NL w val l) (hu : SS w u S) :
    Calls Tryz.prog 7 #[val, u] w fun e w' => ∃ v, e = .returned (.tuple #[v, .int .i64 (((l.length - (keepG l (lst l S)).length : Nat) : Int))]) ∧ NRow w' w.heap.size v (keepG l (lst l S)) ∧ Below w.heap.size w w' := by
  have hre := dreach_any val l hl hsh u S w hv hu
  have hre' : Calls Tryz.prog 16 #[val, u] w fun e w' => ∃ v, e = .returned v ∧ SRow w' w.heap.size v (lst l S) ∧ Below w.heap.size w w' := hre
  obtain ⟨va, vc, rfl⟩ := hv.form
  have HV := Lib.hid hv
  have HR : Hid (keepG l (lst l S) = keepG (l.drop 0) ((lst l S).drop 0)) := Lib.hid rfl
  have hkl := keepG_len l (lst l S)
  generalize hLL : lst l S = L at *
  have HLL := Lib.hid hLL
  generalize hRR : keepG l L = R at *
  have HRR := Lib.hid hRR
  clear hv hu hre hLL hRR
  go_enter Tryz.func7, Tryz.ntmps7
  go_wp2_with fail
  refine hre'.mono ?_
  rintro e w1 ⟨v1, rfl, hr1, hb1⟩
  obtain ⟨la, lc, rfl⟩ := hr1.form
  have hLs := hr1.ss.small
  have HL1 := Lib.hid hr1
  clear hre' hr1
  go_wp2_with fail
  go_loopw [7, 8, 9] (fun s7 s8 s9 wr => ∃ (i k : Nat) (O : List (Bs × Bs)), s9 = .int .i64 (i) ∧ s8 = .int .i64 (k) ∧ i ≤ l.length ∧ k ≤ L.length ∧ NRow wr w1.heap.size s7 O ∧ Hid (R = O ++ keepG (l.drop i) (L.drop k)) ∧ Hid (O.length ≤ i) ∧ Below w1.heap.size w1 wr) (fun _ _ s9 _ => l.length - (intOf s9).toNat)
  case atStart => exact ⟨0, 0, [], rfl, rfl, Nat.zero_le _, Nat.zero_le _, NRow.nil _ _, HR, Lib.hid (Nat.le_refl _), Below.refl _ _⟩
  case round =>
    obtain ⟨i, k, O, rfl, rfl, hi, hk, hO, HE, HOL, hb⟩ := hrel
    obtain ⟨wr, h⟩ := Below.name' hb
    subst h
    obtain ⟨oa, oc, rfl⟩ := hO.form
    have HOO := Lib.hid hO
    clear hO
    by_cases hlt : i < l.length
    · have HLT := Lib.hid hlt
      have i1 : decide ((i : Int) < (l.length : Int)) = true := by simp; omega
      have i0 : 0 ≤ (i : Int) ∧ (i : Int) < (l.length : Int) := by omega
      obtain ⟨g, off, e1, hg, c0, c1, c2⟩ := (HV.out.keep (hb1.trans (hb.mono hb1.size))).at i hlt
      subst e1
      have c2' : wr.cell? ⟨g, off + i * 3 + 2, none⟩ = some (.string ⟨List.toArray (keyI l i)⟩) := c2
      have c1' : wr.cell? ⟨g, off + i * 3 + 1, none⟩ = some (.string ⟨List.toArray (txtI l i)⟩) := c1
      have HIT : Hid (∀ (hk : k < L.length), L.getD k [] = keyI l i → R = (O ++ [(keyI l i, txtI l i)]) ++ keepG (l.drop (i + 1)) (L.drop (k + 1))) := Lib.hid (fun hk h => by rw [HE.out, keepG_hit hlt hk h, List.append_assoc]; rfl)
      have MISS : Hid ((k < L.length → L.getD k [] ≠ keyI l i) → R = O ++ keepG (l.drop (i + 1)) (L.drop k)) := Lib.hid (fun h => by rw [HE.out, keepG_miss hlt h])
      clear c1 c2
      generalize keyI l i = x at *
      generalize txtI l i = t at *
      by_cases hkl2 : k < L.length
      · have k1 : decide ((k : Int) < (L.length : Int)) = true := by simp; omega
        have k0 : 0 ≤ (k : Int) ∧ (k : Int) < (L.length : Int) := by omega
        have k2 : (k : Int) < (L.length : Int) := by omega
        have k3 : decide (k < L.length) = true := by simpa using hkl2
        obtain ⟨g2, off2, e2, hg2, d0⟩ := (HL1.out.keep hb).ss.at' k hkl2
        subst e2
        have HKL := Lib.hid hkl2
        generalize L.getD k [] = y at *
        by_cases hxy : y = x
        · subst hxy
          have HN := Lib.hid (HIT.out hkl2 rfl)
          clear HIT MISS hkl2 hlt
          go_wp2_with fail
          go_quiet (fail)
          go_wp2_with (first
            | (at_builtin; refine wpList_appN rfl (.tmp 35) (.tmp 40) rfl w1.heap.size _ O rfl ((HOO.out.keep (below_drewN (Below.refl _ _) _)).keep (Below.allocS (Below.refl _ _) _)) _ 0 1 1 [(y, t)] rfl rfl (nsrc1 _ y t 48) (by have := HOL.out; simp; omega) (by have := hb.size; simp; omega) ?_; intro v2 w2 hr2 hb2)
            | fail)
          have hb3 := (Below.allocS (below_drewN hb _) _).trans (hb2.mono (Nat.le_refl _))
          refine ⟨⟨i + 1, k + 1, O ++ [(y, t)], by go_num, by go_num, by have := HLT.out; omega, by have := HKL.out; omega, hr2, HN, Lib.hid (by have := HOL.out; simp; omega), ?_⟩, by have := HLT.out; simp [intOf]; omega⟩
          exact hb3
        · have hxy' : (y == x) = false := by simpa using hxy
          have hxy2 : decide (y = x) = false := by simpa using hxy
          have HN := Lib.hid (MISS.out (fun _ => hxy))
          clear HIT MISS hkl2 hlt hxy
          go_wp2_with fail
          go_quiet (fail)
          go_wp2_with fail
          exact ⟨⟨i + 1, k, O, by go_num, rfl, by have := HLT.out; omega, hk, HOO.out, HN, Lib.hid (by have := HOL.out; omega), below_drewN hb _⟩, by have := HLT.out; simp [intOf]; omega⟩
      · have k1 : decide ((k : Int) < (L.length : Int)) = false := by simp; omega
        have k3 : decide (k < L.length) = false := by simpa using hkl2
        have k2 : ¬ (k : Int) < (L.length : Int) := by omega
        have HN := Lib.hid (MISS.out (fun h => absurd h hkl2))
        clear HIT MISS hkl2 hlt
        go_wp2_with fail
        go_quiet (fail)
        go_wp2_with fail
        exact ⟨⟨i + 1, k, O, by go_num, rfl, by have := HLT.out; omega, hk, HOO.out, HN, Lib.hid (by have := HOL.out; omega), below_drewN hb _⟩, by have := HLT.out; simp [intOf]; omega⟩
    · have e : i = l.length := by omega
      subst e
      have HF : Hid (R = O) := Lib.hid (by rw [HE.out, List.drop_length]; simp [keepG])
      clear hlt
      have hw : IntKind.i64.wrap ((l.length : Int) - (O.length : Int)) = (l.length : Int) - (O.length : Int) := by have := HOL.out; rw [IntKind.wrap_i64]; omega
      go_wp2_with fail
      go_ret2
      have hsz : ((l.length - R.length : Nat) : Int) = (l.length : Int) - (R.length : Int) := by omega
      rw [HF.out] at hsz hkl
      refine ⟨_, ?_, by rw [HF.out]; exact NRow.low HOO.out hb1.size, hb1.trans (hb.mono hb1.size)⟩
      rw [HF.out, hsz]
      rfl
end Go.Proofs.YtdddcncjmnekcaaGreatDoor

/- '==' on nodes. -/
set_option linter.unusedSimpArgs false
set_option linter.unusedVariables false
namespace Go.Proofs.YtdddcncjmnekcaaGreatDoor
open Go.RowKit Pl

def eqNd (k : Int) (p v : Bs) (kid : Nat → Bs) (k2 : Int) (p2 v2 : Bs) (kid2 : Nat → Bs) : Bool := decide (k = k2) && decide (p = p2) && decide (v = v2) && sameL (kidL kid) (kidL kid2)

theorem node_fields : ((Tryz.prog).fieldsOf 69).toList.map (fun f => (f.type, f.offset, f.name == "_")) = [(3, 0, false), (9, 1, false), (9, 2, false), (67, 3, false)] := by kernel_rfl

theorem kids_ext (kind : Int) (path val : Bs) (kid : Nat → Bs) : (nd kind path val kid).toArray.extract 3 (3 + 16) = (ka kid).toArray := by
  apply Array.ext'
  simp [nd, ka_len, List.extract_eq_take_drop]
  rw [List.take_of_length_le (by simp [ka_len])]
theorem part_kids (kind : Int) (path val : Bs) (kid : Nat → Bs) (w : World) : (part 67 (nd kind path val kid).toArray 3).run Tryz.prog w = .ok (.agg (ka kid).toArray) w := by
  have hagg : (isAgg 67).run Tryz.prog w = .ok true w := by
    unfold isAgg
    rw [Sem.run_bind, run_underlying Tryz.underlying67 w]
    rfl
  have hsz : (sizeOf 67).run Tryz.prog w = .ok 16 w := by
    have h := ka_info
    cases hq : (Tryz.prog).info? 67 with
    | none => simp [hq] at h
    | some i =>
      have hs : i.size = 16 := by simpa [hq] using h
      simp [sizeOf, typeInfo, hq, hs]
  unfold part
  rw [Sem.run_bind, hagg, Result.andThen_ok, if_pos rfl, Sem.run_bind, hsz, Result.andThen_ok, kids_ext]
  rfl

set_option maxHeartbeats 1000000 in
@[go_sem high] theorem eq_node (k : Int) (p v : Bs) (kid : Nat → Bs) (k2 : Int) (p2 v2 : Bs) (kid2 : Nat → Bs) (d : Nat) (w : World) :
    (Op.equalIn (d + 3) 69 (.agg (nd k p v kid).toArray) (.agg (nd k2 p2 v2 kid2).toArray)).run Tryz.prog w = .ok (eqNd k p v kid k2 p2 v2 kid2) w := by
  rw [run_equalIn_struct w (d + 2) 69 _ _ (by kernel_rfl) (by kernel_rfl)]
  have hf := node_fields
  generalize ((Tryz.prog).fieldsOf 69).toList = l at *
  rcases l with _ | ⟨f0, _ | ⟨f1, _ | ⟨f2, _ | ⟨f3, _ | ⟨f4, l⟩⟩⟩⟩⟩ <;> simp at hf
  obtain ⟨⟨a1, a2, a3⟩, ⟨b1, b2, b3⟩, ⟨c1, c2, c3⟩, ⟨d1, d2, d3⟩⟩ := hf
  have q0 : ∀ k p v kid, (part 3 (nd k p v kid).toArray 0).run Tryz.prog w = .ok (.int .i64 (k)) w := fun k p v kid => run_part_plain w (by simp [Program.plainKey, Tryz.underlying3]) (nd0 k p v kid)
  have q1 : ∀ k p v kid, (part 9 (nd k p v kid).toArray 1).run Tryz.prog w = .ok (.string ⟨List.toArray (p)⟩) w := fun k p v kid => run_part_plain w (by simp [Program.plainKey, Tryz.underlying9]) (nd1 k p v kid)
  have q2 : ∀ k p v kid, (part 9 (nd k p v kid).toArray 2).run Tryz.prog w = .ok (.string ⟨List.toArray (v)⟩) w := fun k p v kid => run_part_plain w (by simp [Program.plainKey, Tryz.underlying9]) (nd2 k p v kid)
  have e0 := run_equalIn_int (P := Tryz.prog) w (d + 1) 3 .i64 .i64 k k2 Tryz.underlying3
  have e1 := run_equalIn_string (P := Tryz.prog) w (d + 1) 9 ⟨List.toArray p⟩ ⟨List.toArray p2⟩ Tryz.underlying9
  have e2 := run_equalIn_string (P := Tryz.prog) w (d + 1) 9 ⟨List.toArray v⟩ ⟨List.toArray v2⟩ Tryz.underlying9
  have e3 := eq_kids kid kid2 d w
  rw [← beq_toListBytes, str_beq] at e1 e2
  simp only [Op.eqFields, a1, a2, b1, b2, c1, c2, d1, d2, a3, b3, c3, d3, ne_eq, not_false_eq_true, if_true, Sem.run_bind, q0, q1, q2, part_kids, e0, e1, e2, e3, Result.andThen_ok]
  unfold eqNd
  by_cases h0 : k = k2
  · subst h0
    by_cases h1 : p = p2
    · subst h1
      by_cases h2 : v = v2
      · subst h2
        cases h3 : sameL (kidL kid) (kidL kid2) <;> simp [Sem.run_bind, Sem.run_ite, q0, q1, q2, part_kids, e0, e1, e2, e3, h3]
      · simp [Sem.run_bind, Sem.run_ite, q0, q1, q2, part_kids, e0, e1, e2, e3, h2]
    · simp [Sem.run_bind, Sem.run_ite, q0, q1, q2, part_kids, e0, e1, e2, e3, h1]
  · simp [Sem.run_bind, Sem.run_ite, q0, q1, q2, part_kids, e0, e1, e2, e3, h0]

end Go.Proofs.YtdddcncjmnekcaaGreatDoor

/- The walk of StorePlays' 'tells': a store and the document's list tell the same. -/
set_option linter.unusedSimpArgs false
set_option linter.unusedVariables false
namespace Go.Proofs.YtdddcncjmnekcaaGreatDoor
open Go.RowKit Pl

theorem sameL_self (l : List Bs) : sameL l l = true := by simp [sameL]
theorem eqNd_self (k : Int) (p v : Bs) (kid : Nat → Bs) : eqNd k p v kid k p v kid = true := by simp [eqNd, sameL_self]
theorem SRow.modv {w w' : World} {b : Nat} {v u : Value} {l : List Bs} (h : SRow w b v l) (hm : Mod u.ownBlock.toList w w') (hn : ∀ k, u.ownBlock = some k → k < b) : SRow w' b v l := by
  refine h.kept (fun k hk => hm.block k ?_ ?_)
  · rcases h.cells with ⟨rfl, _⟩ | ⟨g, cap, rfl, _, hg, _⟩
    · cases hk
    · cases hk; exact hg
  · intro hx
    rw [Option.mem_toList] at hx
    have h1 := hn k (by simpa using hx)
    have h2 := h.own k hk
    omega
set_option maxRecDepth 100000 in
set_option maxHeartbeats 4000000 in
theorem tells9_any (base base2 p b : Nat) (T : List Ent) (val : Value) (D : List It) (u : Value) (S : List Bs) (hsd : SD T D) (hT : T.length ≤ 1000) (hSn : S.length ≤ 100000) (hSl : ∀ x ∈ S, x.length ≤ maxLen) (w : World) (h : Sto w base p b T) (hv : NL w val D) (hu : SRow w base2 u S) :
    Calls Tryz.prog 14 #[.pointer (some ⟨p, 0, none⟩), val, u] w fun e w' => e = .returned (.bool true) ∧ Below w.heap.size w w' := by
  have hDT : D.length = T.length := hsd.perm.length_eq.symm
  have hsu := ssums_any base p b T hT w h
  rw [hsd.sums] at hsu
  have HRE := Lib.hid (fun W (hb : Below w.heap.size w W) => sreach_anyM base base2 p b T hsd.shortE hT u S hSn hSl W (h.keep hb) (hu.keep hb))
  have HDS := Lib.hid (fun W (hb : Below w.heap.size w W) => dsums_any val D (by omega) W (hv.keep hb))
  have HDR := Lib.hid (fun W (hb : Below w.heap.size w W) => dreach_any val D (by omega) hsd.shortI u S W (hv.keep hb) (hu.keep hb).ss)
  have HUQ : Hid (∀ L, IsR T S L → L = outM D (endM D S) D.length) := Lib.hid (fun L hL => hL.uniq (hsd.isR S))
  have HG := Lib.hid (fun x (hx : x.length ≤ maxLen) W (hb : Below w.heap.size w W) => sget_any base p b T x hx W (h.keep hb))
  have HDG := Lib.hid (fun x W (hb : Below w.heap.size w W) => dget_any val D x W (hv.keep hb))
  have HN := Lib.hid (fun x (hx : x.length ≤ maxLen) W (hb : Below w.heap.size w W) => snode_any base p b T hsd.shortE x hx W (h.keep hb))
  have HDN := Lib.hid (fun x W (hb : Below w.heap.size w W) => dnode_any val D x (hsd.short9 x) W (hv.keep hb))
  have HGE := Lib.hid (fun x => hsd.get_at x)
  have HHE := Lib.hid (fun x => hsd.here x)
  have HNE := Lib.hid (fun x => hsd.node_at x)
  have HSL : Hid (∀ i, i < S.length → (S.getD i []).length ≤ maxLen) := Lib.hid (fun i hi => hSl _ (by rw [List.getD_eq_getElem?_getD, List.getElem?_eq_getElem hi]; exact List.getElem_mem _))
  obtain ⟨ua, uc, rfl⟩ := hu.form
  have HU := Lib.hid hu
  clear hsd h hv hu hSl hDT
  generalize outM D (endM D S) D.length = LL at *
  generalize hKK : D.map (·.1) = KK at *
  clear hKK
  go_enter Tryz.func14, Tryz.ntmps14
  go_wp2_with fail
  refine hsu.mono ?_
  rintro e w1 ⟨v1, rfl, hr1, hb1⟩
  have hv1lt := hr1.lt
  go_wp2_with fail
  refine (HRE.out _ hb1).mono ?_
  rintro e w2 ⟨v2, L, rfl, hr2, hL, _, _, hb2⟩
  have hL := HUQ.out L hL
  subst hL
  have hr1 := hr1.keep hb2
  have hbb2 := hb1.trans (hb2.mono hb1.size)
  have h1lt := hr1.own
  have hsz1 := hb1.size
  clear hsu HRE HUQ
  go_wp2_with fail
  refine (HDS.out _ hbb2).mono ?_
  rintro e w3 ⟨v3, rfl, hr3, hb3⟩
  have hbb3 := hbb2.trans (hb3.mono hbb2.size)
  have hr1 := hr1.keep hb3
  have hr2 := hr2.keep hb3
  have hs1 := sametexts_self _ _ _ w3 hr1.ss hr3.ss
  clear HDS
  go_wp2_with fail
  refine hs1.mono ?_
  rintro e w4 ⟨rfl, n4, rfl⟩
  have hb4 := below_drewN (Below.refl w3.heap.size w3) n4
  have hbb4 := hbb3.trans (hb4.mono hbb3.size)
  have hr1 := hr1.keep hb4
  have hr2 := hr2.keep hb4
  clear hs1 hr3 hb3 hb4 hb2 hb1
  go_wp2_with fail
  refine (HDR.out _ hbb4).mono ?_
  rintro e w5 ⟨v5, rfl, hr5, hb5⟩
  have hbb5 := hbb4.trans (hb5.mono hbb4.size)
  have hr1 := hr1.keep hb5
  have hr2 := hr2.keep hb5
  have hs2 := sametexts_self _ _ _ w5 hr2.ss hr5.ss
  clear HDR
  go_wp2_with fail
  refine hs2.mono ?_
  rintro e w6 ⟨rfl, n6, rfl⟩
  have hb6 := below_drewN (Below.refl w5.heap.size w5) n6
  have hbb6 := hbb5.trans (hb6.mono hbb5.size)
  have hr1 := hr1.keep hb6
  have hr2 := hr2.keep hb6
  clear hs2 hr5 hb5 hb6
  have hsp1 := spoil_any _ v1 _ _ hr1
  go_wp2_with fail
  refine hsp1.mono ?_
  rintro e w7 ⟨rfl, hm7⟩
  have hr2 := hr2.modv hm7 hv1lt
  have hbb7 := Below.mod hbb6 hm7 hbb6.size (fun k hk => h1lt k (by simpa using hk))
  have hsp2 := spoil_any _ v2 _ _ hr2
  go_wp2_with fail
  refine hsp2.mono ?_
  rintro e w8 ⟨rfl, hm8⟩
  have hbb8 := Below.mod hbb7 hm8 hbb7.size (fun k hk => Nat.le_trans hsz1 (hr2.own k (by simpa using hk)))
  clear hsp1 hsp2 hm7 hm8 hbb2 hbb3 hbb4 hbb5 hbb6 hbb7 hr1 hr2 h1lt hv1lt
  go_wp2_with fail
  go_loopw [9] (fun s9 wr => ∃ i : Nat, s9 = .int .i64 (i) ∧ i ≤ S.length ∧ Below w.heap.size w wr) (fun s9 _ => S.length - (intOf s9).toNat)
  case atStart => exact ⟨0, rfl, Nat.zero_le _, hbb8⟩
  case round =>
    clear hbb8
    obtain ⟨i, rfl, hi, hb⟩ := hrel
    obtain ⟨wr, hnm⟩ := Below.name' hb
    subst hnm
    by_cases hlt : i < S.length
    · have HLT := Lib.hid hlt
      have i1 : decide ((i : Int) < (S.length : Int)) = true := by simp; omega
      have i0 : 0 ≤ (i : Int) ∧ (i : Int) < (S.length : Int) := by omega
      obtain ⟨g, off, e1, hg, c1⟩ := HU.out.ss.at' i hlt
      subst e1
      have hxl := HSL.out i hlt
      have hcx : ∀ W, Below w.heap.size w W → W.cell? ⟨g, off + i, none⟩ = some (.string ⟨List.toArray (S.getD i [])⟩) := fun W hb => (hb.cell (p := ⟨g, off + i, none⟩) hg).trans c1
      have hg1 := HG.out _ hxl _ hb
      have hg2 := fun W hb => HDG.out (S.getD i []) W hb
      have hn1 := fun W hb => HN.out _ hxl W hb
      have hn2 := fun W hb => HDN.out (S.getD i []) W hb
      rw [HGE.out, ← HHE.out] at hg1
      rw [HNE.out] at hn1
      have HX1 := Lib.hid hg2
      have HX2 := Lib.hid hn1
      have HX3 := Lib.hid hn2
      have HCX := Lib.hid hcx
      have c2 := hcx _ hb
      clear hg2 hn1 hn2 hcx hlt hxl c1
      generalize S.getD i [] = x at *
      generalize hereI x D = hh at *
      generalize getD9 D x = tx at *
      generalize nodeD D x = nn at *
      obtain ⟨⟨kd, pa, va, kk⟩, code⟩ := nn
      go_wp2_with fail
      refine hg1.mono ?_
      rintro e w10 ⟨rfl, hb10⟩
      have hb10 := hb.trans (hb10.mono hb.size)
      have c3 := HCX.out _ hb10
      clear c2
      go_wp2_with fail
      refine (HX1.out _ hb10).mono ?_
      rintro e w11 ⟨rfl, n11, rfl⟩
      have hb11 := below_drewN hb10 n11
      have c4 := HCX.out _ hb11
      clear c3 hb10 hg1 HX1
      go_wp2_with fail
      refine (HX2.out _ hb11).mono ?_
      rintro e w12 ⟨rfl, hb12⟩
      have hb12 := hb11.trans (hb12.mono hb11.size)
      clear c4 hb11 HX2
      go_wp2_with (refine wpList_nodeStore rfl rfl (.tmp 14) (.tmp 71) rfl rfl (kind := kd) (path := pa) (val := va) (kid := kk) rfl (k2 := 0) (p2 := []) (v2 := []) (kid2 := noK) (Blk.new' (by simp)) ?_; intro w13 N13 m13; have hb13 : Below w.heap.size w w13 := Below.mod (Below.allocS hb12 _) m13 (by simp; have := hb12.size; omega) (by simp; exact hb12.size); have c5 := HCX.out _ hb13)
      refine (HX3.out _ hb13).mono ?_
      rintro e w14 ⟨rfl, hb14⟩
      have N14 := N13.keep hb14
      have hb14 := hb13.trans (hb14.mono hb13.size)
      clear c5 hb13 HX3 N13 m13 hb12
      have EQ := eqNd_self kd pa va kk
      go_wp2_with (first
        | (refine wpList_nodeStore rfl rfl (.tmp 16) (.tmp 80) rfl rfl (kind := kd) (path := pa) (val := va) (kid := kk) rfl (k2 := 0) (p2 := []) (v2 := []) (kid2 := noK) (Blk.new' (by simp)) ?_; intro w15 N15 m15; have hb15 : Below w.heap.size w w15 := Below.mod (Below.allocS hb14 _) m15 (by simp; have := hb14.size; omega) (by simp; exact hb14.size); have N15' := (N14.alloc (.cells (nd 0 [] [] noK).toArray 69)).mod m15 (by simp; have := N14.lt; omega))
        | (refine wpList_nodeG ?hw (.tmp 14) rfl rfl N15' ?_; (case hw => rfl))
        | (refine wpList_nodeG ?hw (.tmp 16) rfl rfl N15 ?_; (case hw => rfl)))
      exact ⟨⟨i + 1, by go_num, by have := HLT.out; omega, hb15⟩, by have := HLT.out; simp [intOf]; omega⟩
    · have e : i = S.length := by omega
      subst e
      clear hlt
      go_wp2_with fail
      go_ret
      exact ⟨rfl, hb⟩
end Go.Proofs.YtdddcncjmnekcaaGreatDoor
