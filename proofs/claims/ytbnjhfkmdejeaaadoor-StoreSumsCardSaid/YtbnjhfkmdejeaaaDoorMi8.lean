/- SSums, ActV. -/
import Derived.Test.YtbnjhfkmdejeaaaDoorMg15
import Derived.Test.YtbnjhfkmdejeaaaDoorMi6
import Derived.Test.YtbnjhfkmdejeaaaDoorMi7
set_option linter.unnecessarySimpa false

/- By its sum: the walk of StoreSums. -/
set_option linter.unusedSimpArgs false
set_option linter.unusedVariables false
namespace Go.Proofs.YtbnjhfkmdejeaaaDoor
open Go.RowKit Go.WideMaps Go.Maps Go.Sort Go.Shelf Pl

theorem mem_at (L : List Bs) (n : Nat) (h : n < L.length) : L.getD n [] ∈ L := by
  rw [List.getD_eq_getElem?_getD, List.getElem?_eq_getElem h]
  exact List.getElem_mem _
theorem rise_at {L : List Bs} (h : L.Pairwise (fun x y => x < y)) (m : Nat) (hm : m + 1 < L.length) : leS (L.getD (m + 1) []) (L.getD m []) = false := by
  rw [leS_false, List.getD_eq_getElem?_getD, List.getD_eq_getElem?_getD, List.getElem?_eq_getElem hm, List.getElem?_eq_getElem (by omega)]
  exact List.pairwise_iff_getElem.1 h m (m + 1) (by omega) hm (by omega)
theorem Filled.k32 {T : List Ent} {came : List Bs} (h : Filled T came) : ∀ x ∈ keysE T, x.length = 32 := fun x hx => h.c32 x ((h.key x).1 hx)
set_option maxRecDepth 100000 in
set_option maxHeartbeats 4000000 in
theorem stosums_any (v : Value) (l : List ActP) (hsh : AShort l) (w : World) (hk : KT w) (hv : AS w v l) :
    Calls Tryd.prog 7 #[v] w fun e w' => e = .returned (.bool true) ∧ Below w.heap.size w w' := by
  have hws := works9_any w hk
  obtain ⟨va, vc, rfl⟩ := hv.form
  have HV := Lib.hid hv
  have HSH := Lib.hid hsh
  clear hv hsh
  go_enter Tryd.func7, Tryd.ntmps7
  go_wp2_with fail
  refine hws.mono ?_
  rintro e w1 ⟨rfl, hb1⟩
  have hfl := fill_any _ l HSH.out w1 (hk.keep hb1) (HV.out.keep hb1)
  clear hws
  go_wp2_with fail
  refine hfl.mono ?_
  rintro e w2 ⟨p, b, u, T, came, rfl, hS2, hr2, hbb, hF, hc30, hb2⟩
  clear hfl
  have hT : T.length ≤ 1000 := by have := hF.len; omega
  have hss := ssums_any w1.heap.size p b T hT w2 hS2
  have HL : Hid ((sortB (keysE T)).length = T.length) := Lib.hid (by rw [(sortB_perm _).length_eq]; simp [keysE])
  have HLT := Lib.hid (sort_lt hF.nodup)
  have HMEM : Hid (∀ x, x ∈ sortB (keysE T) ↔ x ∈ keysE T) := Lib.hid (fun x => (sortB_perm _).mem_iff)
  have hle := hF.len
  have HF := Lib.hid hF
  clear hF
  obtain ⟨ua, uc, rfl⟩ := hr2.form
  go_wp2_with fail
  refine hss.mono ?_
  rintro e w3 ⟨v3, rfl, hr3, hb3⟩
  clear hss
  generalize sortB (keysE T) = L at *
  obtain ⟨la, lc, rfl⟩ := hr3.form
  have hbw := hb1.trans (hb2.mono hb1.size)
  have hbw3 := hbw.trans (hb3.mono hbw.size)
  have hk3 := hk.keep hbw3
  have HS := Lib.hid (hS2.keep hb3)
  have HC := Lib.hid (hr2.keep hb3)
  have HR := Lib.hid hr3
  clear hS2 hr2 hr3 hb1 hb2 hb3 hbw
  go_wp2_with fail
  go_loopw [27] (fun s27 wr => ∃ (n : Nat), s27 = .int .i64 (n) ∧ n ≤ L.length ∧ Below w3.heap.size w3 wr) (fun s27 _ => L.length - (intOf s27).toNat)
  case atStart => exact ⟨0, rfl, Nat.zero_le _, Below.refl _ _⟩
  case round =>
    obtain ⟨n, rfl, hn, hb⟩ := hrel
    by_cases h1 : n < L.length
    · have d1 : decide ((n : Int) < (L.length : Int)) = true := by simp; omega
      have i0 : 0 ≤ (n : Int) ∧ (n : Int) < (L.length : Int) := by omega
      have hxm : L.getD n [] ∈ keysE T := (HMEM.out _).1 (mem_at L n h1)
      obtain ⟨t, ht⟩ := mem_keys.1 hxm
      obtain ⟨ht1, ht2⟩ := HF.out.txt _ ht
      simp only at ht1 ht2
      have hget := sget_any w1.heap.size p b T (L.getD n []) (by rw [HF.out.k32 _ hxm]; unfold maxLen; omega) _ (HS.out.keep hb)
      rw [get_of HF.out.nodup ht, decide_eq_true hxm, Option.getD_some] at hget
      have HX := Lib.hid ht2
      obtain ⟨g, off, rfl, c0⟩ := (HR.out.keep hb).ss.at n h1
      have HRn : Hid (∀ m, n = m + 1 → leS (L.getD n []) (L.getD m []) = false) := Lib.hid (fun m e => by subst e; exact rise_at HLT.out m h1)
      clear ht2 hxm ht
      generalize hx : L.getD n [] = x at *
      go_wp2_with fail
      refine hget.mono ?_
      rintro e w4 ⟨rfl, hb4⟩
      have hb34 := hb.trans (hb4.mono hb.size)
      have hdg := digsum_ok 1 (by omega) (by omega) t (by omega) w4 (hk3.keep hb34)
      rw [← HX.out] at hdg
      clear hget c0 hb4 d1
      go_wp2_with fail
      refine hdg.mono ?_
      rintro e w5 ⟨rfl, hb5⟩
      have hb35 := hb34.trans (hb5.mono hb34.size)
      clear hdg hb34 hb5
      rcases n with _ | m
      · go_wp2_with fail
        exact ⟨⟨1, rfl, by omega, hb35⟩, by simp [intOf]; omega⟩
      · have q1 := HRn.out m rfl
        obtain ⟨g', off', e, c1⟩ := (HR.out.keep hb35).ss.at m (by omega)
        injection e with e
        injection e with e1 e2 _
        subst e1 e2
        generalize L.getD m [] = y at *
        have wm : wrap64 (m : Int) = (m : Int) := wrap64_nat m (by have := (HR.out.ss).small; omega)
        have wm2 : wrap64 ((m : Int) + 1 + 1) = (m : Int) + 1 + 1 := wrap64_nat (m + 2) (by have := (HR.out.ss).small; omega)
        have i1 : 0 ≤ (m : Int) ∧ (m : Int) < (L.length : Int) := by omega
        have d2 : decide (0 < ((m + 1 : Nat) : Int)) = true := by simp only [decide_eq_true_eq]; omega
        go_wp2_with fail
        rw [wm2]
        exact ⟨⟨m + 2, by simp; omega, by omega, hb35⟩, by simp [intOf]; omega⟩
    · have e : n = L.length := by omega
      subst e
      have d1 : decide ((L.length : Int) < (L.length : Int)) = false := by simp
      have hbw4 := hbw3.trans (hb.mono hbw3.size)
      have HS4 := Lib.hid (HS.out.keep hb)
      have HC4 := Lib.hid (HC.out.keep hb)
      clear hb
      go_wp2_with fail
      go_loopw [70] (fun s70 w' => ∃ (n : Nat), s70 = .int .i64 (n) ∧ n ≤ came.length ∧ Below wr.heap.size wr w') (fun s70 _ => came.length - (intOf s70).toNat)
      case atStart => exact ⟨0, rfl, Nat.zero_le _, Below.refl _ _⟩
      case round =>
        obtain ⟨n, rfl, hn, hb⟩ := hrel
        by_cases h1 : n < came.length
        · have d1 : decide ((n : Int) < (came.length : Int)) = true := by simp; omega
          have i0 : 0 ≤ (n : Int) ∧ (n : Int) < (came.length : Int) := by omega
          have hxm : came.getD n [] ∈ keysE T := (HF.out.key _).2 (mem_at came n h1)
          have hget := sget_any w1.heap.size p b T (came.getD n []) (by rw [HF.out.k32 _ hxm]; unfold maxLen; omega) _ (HS4.out.keep hb)
          rw [decide_eq_true hxm] at hget
          obtain ⟨g, off, rfl, c0⟩ := (HC4.out.keep hb).ss.at n h1
          clear hxm
          generalize came.getD n [] = x at *
          generalize (getT T x).getD [] = t at *
          go_wp2_with fail
          refine hget.mono ?_
          rintro e w4 ⟨rfl, hb4⟩
          go_wp2_with fail
          exact ⟨⟨n + 1, rfl, by omega, hb.trans (hb4.mono hb.size)⟩, by simp [intOf]; omega⟩
        · have e : n = came.length := by omega
          subst e
          have d1 : decide ((came.length : Int) < (came.length : Int)) = false := by simp
          have d2 : decide (L.length ≤ came.length) = true := by have := HL.out; simp; omega
          go_wp2_with fail
          go_ret
          exact ⟨rfl, hbw4.trans (hb.mono hbw4.size)⟩
end Go.Proofs.YtbnjhfkmdejeaaaDoor

/- Acts done to a store, as an argument; two numbers. -/
set_option linter.unusedVariables false
set_option linter.unnecessarySimpa false
namespace Go.Proofs.YtbnjhfkmdejeaaaDoor
open Go.ChangeShapes Go.WideShapes Go.ChangeAt Go.RowKit Pl

theorem act_val {W : World} {v : Value} (h : Sh.Val W (.slice 4 (.pair (.int .i64) (.pair .str (.pair (.pair (.int .i64) (.pair (.int .i64) .unit)) .unit)))) v) : ∃ l : List ActP, AS W v l ∧ AShort l := by
  rcases (show _ ∨ _ from h) with h | ⟨a, len, cap, hv, hlc, hcm, hel⟩
  · obtain rfl : v = .slice none 0 0 := by simpa using h
    exact ⟨[], ⟨none, 0, rfl, Nat.le_refl _, by unfold maxLen; omega, fun h => absurd rfl h⟩, fun i => by simp [maxLen]⟩
  · obtain rfl : v = .slice (some a) len cap := by simpa using hv
    rcases Nat.eq_zero_or_pos len with h0 | hpos
    · subst h0
      exact ⟨[], ⟨some a, cap, rfl, hlc, hcm, fun h => absurd rfl h⟩, fun i => by simp [maxLen]⟩
    · obtain ⟨hs, hc⟩ := slice_cells (by decide) hpos hel
      have hf : ∀ i, ∃ x : ActP, i < len → (W.cell? ⟨a.block, a.off + i * 4, none⟩ = some (.int .i64 (x.1)) ∧ W.cell? ⟨a.block, a.off + i * 4 + 1, none⟩ = some (.string ⟨List.toArray (x.2.1)⟩) ∧
          W.cell? ⟨a.block, a.off + i * 4 + 2, none⟩ = some (.int .i64 (x.2.2.1)) ∧ W.cell? ⟨a.block, a.off + i * 4 + 3, none⟩ = some (.int .i64 (x.2.2.2))) ∧ x.2.1.length ≤ maxLen := by
        intro i
        by_cases hi : i < len
        · obtain ⟨cs, ⟨c0, c1, rfl, ⟨n, rfl, _⟩, c2, c3, rfl, ⟨s, rfl, hs1⟩, c4, c5, rfl, ⟨c6, c7, rfl, ⟨n1, rfl, _⟩, c8, c9, rfl, ⟨n2, rfl, _⟩, hu1⟩, hu⟩, _, hj⟩ := hc i hi
          obtain rfl : c9 = [] := hu1
          obtain rfl : c5 = [] := hu
          have h0 := hj 0 (by decide)
          have h1 := hj 1 (by decide)
          have h2 := hj 2 (by decide)
          have h3 := hj 3 (by decide)
          refine ⟨(n, s.data.toList, n1, n2), fun _ => ⟨⟨?_, ?_, ?_, ?_⟩, by rw [Array.length_toList]; exact hs1⟩⟩
          · simpa using h0
          · rw [← str_list s]
            simpa using h1
          · simpa using h2
          · simpa using h3
        · exact ⟨act0, fun h => absurd h hi⟩
      obtain ⟨f, hf⟩ := Classical.axiomOfChoice hf
      obtain ⟨b, off, sp⟩ := a
      simp only at hs
      subst hs
      have hg : ∀ i, i < len → ((List.range len).map f).getD i act0 = f i := fun i hi' => by simp [List.getD, hi']
      refine ⟨(List.range len).map f, ⟨some ⟨b, off, none⟩, cap, by simp, by simpa using hlc, hcm, fun _ => ⟨b, off, rfl, cell_lt (hf 0 hpos).1.1, fun i hi => ?_⟩⟩, fun i => ?_⟩
      · have hi' : i < len := by simpa using hi
        rw [hg i hi']
        exact (hf i hi').1
      · by_cases hi' : i < len
        · rw [hg i hi']
          exact (hf i hi').2
        · rw [List.getD_eq_getElem?_getD, List.getElem?_eq_none (by simp; omega)]
          simp [maxLen]
theorem two_val {W : World} {v : Value} (h : Sh.Val W (.pair (.int .i64) (.pair (.int .i64) .unit)) v) : ∃ x y : Int, v = .agg #[.int .i64 (x), .int .i64 (y)] := by
  obtain ⟨c0, rfl, _, _, rfl, ⟨k, rfl, _⟩, _, y, rfl, ⟨k2, rfl, _⟩, hu⟩ := h
  obtain rfl : y = [] := hu
  exact ⟨k, k2, rfl⟩
end Go.Proofs.YtbnjhfkmdejeaaaDoor
