/- CntD, IntV, SJoined. -/
import Derived.Test.YtbnjhfkmdejeaaaDoorMj8
import Derived.Test.YtbnjhfkmdejeaaaDoorMj6
import Derived.Test.YtbnjhfkmdejeaaaDoorMg2
import Derived.Test.YtbnjhfkmdejeaaaDoorMg15
set_option linter.unnecessarySimpa false

/- A map that counts texts. -/
set_option linter.unusedSimpArgs false
set_option linter.unusedVariables false
namespace Go.Proofs.YtbnjhfkmdejeaaaDoor
open Go.RowKit Go.WideMaps Go.Maps Go.Sort Go.Shelf Pl

/-- A map that counts: M the texts that came, E those without doubles. -/
structure CntD (D : DataW Unit) (M E : List Bs) : Prop where
  has : ∀ k : Bs, Maps.has D (.string k) = decide (k ∈ E)
  val : ∀ k : Bs, D.atKey (.string k) (.lit (.int .i64 0)) = .lit (.int .i64 ((M.count k : Nat) : Int))
  nd : E.Nodup
  mem : ∀ k, k ∈ E ↔ k ∈ M
  size : Maps.size D = E.length
theorem CntD.start : CntD (.map []) [] [] := ⟨fun k => (by rw [has_eq]; simp), fun k => (by rw [atKey_of_not_has (by rw [has_eq]; rfl)]; simp), List.nodup_nil, fun _ => Iff.rfl, rfl⟩
theorem CntD.put {D : DataW Unit} {M E : List Bs} (h : CntD D M E) (hD : Tidy D) (s : Bs) : ∃ E', CntD (D.put (.string s) (.lit (.int .i64 (((M.count s : Nat) : Int) + 1)))) (M ++ [s]) E' ∧ E'.length ≤ E.length + 1 := by
  have hval : ∀ k : Bs, (D.put (.string s) (.lit (.int .i64 (((M.count s : Nat) : Int) + 1)))).atKey (.string k) (.lit (.int .i64 0)) = .lit (.int .i64 (((M ++ [s]).count k : Nat) : Int)) := by
    intro k
    by_cases e : k = s
    · subst e
      rw [atKey_put_same hD.isMap (isKeyS k)]
      simp
    · rw [atKey_put_other (by intro h; injection h with h; exact e h), h.val]
      have : s ≠ k := fun h => e h.symm
      simp [List.count_append, this]
  by_cases hs : s ∈ E
  · refine ⟨E, ⟨fun k => ?_, hval, h.nd, fun k => ?_, ?_⟩, by omega⟩
    · by_cases e : k = s
      · subst e
        rw [has_put_same hD.isMap (isKeyS k)]
        simp [hs]
      · rw [has_put_other (by intro h; injection h with h; exact e h), h.has]
    · rw [h.mem, List.mem_append, List.mem_singleton]
      refine ⟨.inl, fun hk => ?_⟩
      rcases hk with hk | rfl
      · exact hk
      · exact (h.mem _).1 hs
    · rw [size_put hD, h.has, if_pos (by simpa using hs), h.size]
  · refine ⟨E ++ [s], ⟨fun k => ?_, hval, ?_, fun k => ?_, ?_⟩, by simp⟩
    · by_cases e : k = s
      · subst e
        rw [has_put_same hD.isMap (isKeyS k)]
        simp
      · rw [has_put_other (by intro h; injection h with h; exact e h), h.has, decide_eq_decide]
        simp [e]
    · rw [List.nodup_append]
      refine ⟨h.nd, by simp, fun a ha b hb e => ?_⟩
      rw [List.mem_singleton] at hb
      subst hb e
      exact hs ha
    · rw [List.mem_append, List.mem_append, h.mem]
    · rw [size_put hD, h.has, if_neg (by simpa using hs), h.size, List.length_append]
      rfl
theorem CntD.pos {D : DataW Unit} {M E : List Bs} (h : CntD D M E) {k : Bs} (hk : k ∈ M) : 0 < M.count k := List.count_pos_iff.2 hk
theorem nodup_lt {L : List Bs} (h : L.Pairwise (fun x y => x < y)) : L.Nodup := h.imp (fun {x y} h e => by subst e; exact List.lt_irrefl _ h)
/-- As many as without doubles. -/
theorem CntD.len {D : DataW Unit} {M E L : List Bs} (h : CntD D M E) (hL : L.Nodup) (hm : ∀ k, k ∈ L ↔ k ∈ M) : L.length = E.length :=
  ((List.perm_ext_iff_of_nodup hL h.nd).2 (fun k => (hm k).trans (h.mem k).symm)).length_eq
theorem rch_nil {T : List Ent} {s : Bs} (h : Rch T [] s) : False := by
  induction h with
  | start h _ => cases h
  | step _ _ _ ih => exact ih
theorem IsR.nil {T : List Ent} {L : List Bs} (h : IsR T [] L) : L = [] := by
  cases L with
  | nil => rfl
  | cons a r => exact (rch_nil ((h.2 a).1 (by simp))).elim
theorem IsR.nodup {T : List Ent} {S L : List Bs} (h : IsR T S L) : L.Nodup := nodup_lt h.1
end Go.Proofs.YtbnjhfkmdejeaaaDoor

/- A list of numbers, as an argument. -/
set_option linter.unusedVariables false
set_option linter.unnecessarySimpa false
namespace Go.Proofs.YtbnjhfkmdejeaaaDoor
open Go.ChangeShapes Go.WideShapes Go.ChangeAt Go.RowKit Pl

def ISrc (w : World) (g o : Nat) (l : List Int) : Prop := ∀ i, i < l.length → w.cell? ⟨g, o + i, none⟩ = some (.int .i64 (l.getD i 0))
def IS (w : World) (v : Value) (l : List Int) : Prop :=
  ∃ a cap, v = .slice a l.length cap ∧ l.length ≤ cap ∧ cap ≤ maxLen ∧ (l ≠ [] → ∃ g off, a = some ⟨g, off, none⟩ ∧ g < w.heap.size ∧ ISrc w g off l)
theorem IS.keep {W w : World} {v : Value} {l : List Int} (h : IS W v l) (hb : Below W.heap.size W w) : IS w v l := by
  obtain ⟨a, cap, h1, h2, h3, h4⟩ := h
  refine ⟨a, cap, h1, h2, h3, fun hl => ?_⟩
  obtain ⟨g, off, e, hg, hc⟩ := h4 hl
  exact ⟨g, off, e, Nat.lt_of_lt_of_le hg hb.size, fun i hi => (hb.cell (p := ⟨g, off + i, none⟩) hg).trans (hc i hi)⟩
theorem IS.form {w : World} {v : Value} {l : List Int} (h : IS w v l) : ∃ a c, v = .slice a l.length c := by
  obtain ⟨a, cap, h1, _⟩ := h
  exact ⟨a, cap, h1⟩
theorem IS.small {w : World} {v : Value} {l : List Int} (h : IS w v l) : l.length ≤ 9223372036854775807 := by
  obtain ⟨a, cap, h1, h2, h3, _⟩ := h
  unfold maxLen at h3; omega
theorem IS.at' {w : World} {a : Option Addr} {c : Nat} {l : List Int} (h : IS w (.slice a l.length c) l) (i : Nat) (hi : i < l.length) :
    ∃ g off, a = some ⟨g, off, none⟩ ∧ g < w.heap.size ∧ w.cell? ⟨g, off + i, none⟩ = some (.int .i64 (l.getD i 0)) := by
  obtain ⟨a', cap, h1, _, _, h5⟩ := h
  injection h1 with h1 _ _
  obtain ⟨g, off, e, hg, hc⟩ := h5 (by intro e; rw [e] at hi; simp at hi)
  exact ⟨g, off, h1.trans e, hg, hc i hi⟩
theorem is_val {W : World} {v : Value} (h : Sh.Val W (.slice 1 (.int .i64)) v) : ∃ l : List Int, IS W v l := by
  rcases (show _ ∨ _ from h) with h | ⟨a, len, cap, hv, hlc, hcm, hel⟩
  · obtain rfl : v = .slice none 0 0 := by simpa using h
    exact ⟨[], ⟨none, 0, rfl, Nat.le_refl _, by unfold maxLen; omega, fun h => absurd rfl h⟩⟩
  · obtain rfl : v = .slice (some a) len cap := by simpa using hv
    rcases Nat.eq_zero_or_pos len with h0 | hpos
    · subst h0
      exact ⟨[], ⟨some a, cap, rfl, hlc, hcm, fun h => absurd rfl h⟩⟩
    · obtain ⟨hs, hc⟩ := slice_cells (by decide) hpos hel
      have hf : ∀ i, ∃ x : Int, i < len → W.cell? ⟨a.block, a.off + i, none⟩ = some (.int .i64 (x)) := by
        intro i
        by_cases hi : i < len
        · obtain ⟨cs, ⟨n, rfl, _⟩, _, hj⟩ := hc i hi
          have h0 := hj 0 (by decide)
          exact ⟨n, fun _ => by simpa using h0⟩
        · exact ⟨0, fun h => absurd h hi⟩
      obtain ⟨f, hf⟩ := Classical.axiomOfChoice hf
      obtain ⟨b, off, sp⟩ := a
      simp only at hs
      subst hs
      have hg : ∀ i, i < len → ((List.range len).map f).getD i 0 = f i := fun i hi' => by simp [List.getD, hi']
      refine ⟨(List.range len).map f, ⟨some ⟨b, off, none⟩, cap, by simp, by simpa using hlc, hcm, fun _ => ⟨b, off, rfl, cell_lt (hf 0 hpos), fun i hi => ?_⟩⟩⟩
      have hi' : i < len := by simpa using hi
      rw [hg i hi']
      exact hf i hi'
end Go.Proofs.YtbnjhfkmdejeaaaDoor

/- What two lists reach together: the walk of StoreJoined. -/
set_option linter.unusedSimpArgs false
set_option linter.unusedVariables false
namespace Go.Proofs.YtbnjhfkmdejeaaaDoor
open Go.RowKit Go.WideMaps Go.Maps Go.Sort Go.Shelf Pl

theorem srow_empty {w : World} {base g : Nat} (hg : base ≤ g) (hh : w.heap[g]? = some (.cells #[] 9)) : SRow w base (.slice (some ⟨g, 0, none⟩) 0 0) [] :=
  ⟨rfl, .inr ⟨g, 0, #[], rfl, hg, hh, Nat.le_refl _, by unfold maxLen; omega, rfl, rfl⟩⟩
set_option maxRecDepth 100000 in
set_option maxHeartbeats 8000000 in
theorem stojoined_any (v v1 v2 : Value) (l : List ActP) (al bl : List Int) (hsh : AShort l) (w : World) (hk : KT w) (hv : AS w v l) (hi1 : IS w v1 al) (hi2 : IS w v2 bl) :
    Calls Tryd.prog 8 #[v, v1, v2] w fun e w' => e = .returned (.bool true) ∧ Below w.heap.size w w' := by
  have hws := works9_any w hk
  obtain ⟨va, vc, rfl⟩ := hv.form
  obtain ⟨aa, ac, rfl⟩ := hi1.form
  obtain ⟨ba, bc, rfl⟩ := hi2.form
  have HV := Lib.hid hv
  have HI1 := Lib.hid hi1
  have HI2 := Lib.hid hi2
  have HSHA := Lib.hid hsh
  clear hv hsh hi1 hi2
  go_enter Tryd.func8, Tryd.ntmps8
  go_wp2_with fail
  refine hws.mono ?_
  rintro e w1 ⟨rfl, hb1⟩
  have hfl := fill_any _ l HSHA.out w1 (hk.keep hb1) (HV.out.keep hb1)
  clear hws
  go_wp2_with fail
  refine hfl.mono ?_
  rintro e w2 ⟨p, b, u, T, came, rfl, hS2, hr2, hbb, hF, hc30, hb2⟩
  clear hfl
  have hT : T.length ≤ 1000 := by have := hF.len; omega
  have hT30 : T.length ≤ 30 := by have := hF.len; omega
  have HSH := Lib.hid hF.short
  have HK32 := Lib.hid hF.k32
  have HC32 : Hid (∀ x ∈ came, x.length = 32) := Lib.hid hF.c32
  clear hF
  have hw2 := hb1.trans (hb2.mono hb1.size)
  obtain ⟨ua, uc, rfl⟩ := hr2.form
  obtain ⟨B0, hB0⟩ : ∃ B0, B0 = w1.heap.size := ⟨_, rfl⟩
  rw [← hB0] at hS2
  have HS := Lib.hid hS2
  have HCMw2 := Lib.hid hr2
  clear hS2 hr2 hb1 hb2 hB0 hbb
  by_cases hc0 : came.length = 0
  · have hce : came = [] := List.length_eq_zero_iff.1 hc0
    subst hce
    have hre := sreach_any B0 (b + 1) p b T HSH.out hT (.slice none 0 0) [] (by simp) (fun x hx => by cases hx) w2 HS.out (SRow.nil _ _)
    go_wp2_with fail
    refine hre.mono ?_
    rintro e w3 ⟨v3, L, rfl, hr3, hisr, _, _, hb3⟩
    obtain rfl := IsR.nil hisr
    obtain ⟨la, lc, rfl⟩ := hr3.form
    clear hre
    go_wp2_with fail
    go_ret
    exact ⟨rfl, hw2.trans (hb3.mono hw2.size)⟩
  have hc1 : 0 < came.length := by omega
  have hcn : came ≠ [] := fun e => by rw [e] at hc1; simp at hc1
  have d0 : ((came.length : Int) == 0) = false := by rw [beq_eq_false_iff_ne]; omega
  clear hc0
  by_cases hA : 30 < al.length
  · have d1 : decide ((30 : Int) < (al.length : Int)) = true := by simp only [decide_eq_true_eq]; omega
    have hre := sreach_any B0 (b + 1) p b T HSH.out hT (.slice none 0 0) [] (by simp) (fun x hx => by cases hx) w2 HS.out (SRow.nil _ _)
    go_wp2_with fail
    refine hre.mono ?_
    rintro e w3 ⟨v3, L, rfl, hr3, hisr, _, _, hb3⟩
    obtain rfl := IsR.nil hisr
    obtain ⟨la, lc, rfl⟩ := hr3.form
    clear hre
    go_wp2_with fail
    go_ret
    exact ⟨rfl, hw2.trans (hb3.mono hw2.size)⟩
  have d1 : decide ((30 : Int) < (al.length : Int)) = false := by simp only [decide_eq_false_iff_not]; omega
  by_cases hB : 30 < bl.length
  · have d2 : decide ((30 : Int) < (bl.length : Int)) = true := by simp only [decide_eq_true_eq]; omega
    have hre := sreach_any B0 (b + 1) p b T HSH.out hT (.slice none 0 0) [] (by simp) (fun x hx => by cases hx) w2 HS.out (SRow.nil _ _)
    go_wp2_with fail
    refine hre.mono ?_
    rintro e w3 ⟨v3, L, rfl, hr3, hisr, _, _, hb3⟩
    obtain rfl := IsR.nil hisr
    obtain ⟨la, lc, rfl⟩ := hr3.form
    clear hre
    go_wp2_with fail
    go_ret
    exact ⟨rfl, hw2.trans (hb3.mono hw2.size)⟩
  have d2 : decide ((30 : Int) < (bl.length : Int)) = false := by simp only [decide_eq_false_iff_not]; omega
  go_wp2_with fail
  clear d0 d1 d2
  go_loopw [9, 49] (fun s9 s49 wr => ∃ (n : Nat) (X : List Bs), s49 = .int .i64 (n) ∧ n ≤ al.length ∧ SRow wr w2.heap.size s9 X ∧ X.length ≤ n ∧ Hid (∀ x ∈ X, x.length = 32) ∧ Below w2.heap.size w2 wr) (fun _ s49 _ => al.length - (intOf s49).toNat)
  case atStart => exact ⟨0, [], rfl, Nat.zero_le _, SRow.nil _ _, Nat.le_refl _, Lib.hid (fun x hx => by cases hx), Below.refl _ _⟩
  case round =>
    obtain ⟨n, X, rfl, hn, hr, hXl, HXX, hb⟩ := hrel
    obtain ⟨xa, xc, rfl⟩ := hr.form
    by_cases h1 : n < al.length
    · have d1 : decide ((n : Int) < (al.length : Int)) = true := by simp; omega
      have i0 : 0 ≤ (n : Int) ∧ (n : Int) < (al.length : Int) := by omega
      have hwr := hw2.trans (hb.mono hw2.size)
      obtain ⟨gi, oi, rfl, _, c0⟩ := (HI1.out.keep hwr).at' n h1
      have hm := modN_lt (al.getD n 0) came.length hc1
      have i1 : 0 ≤ (modN (al.getD n 0) came.length : Int) ∧ (modN (al.getD n 0) came.length : Int) < (came.length : Int) := by omega
      have hbl := below_any (al.getD n 0) came.length hc1 (by omega)
      obtain ⟨gc, oc, rfl, _, c1⟩ := (HCMw2.out.keep hb).ss.at' _ hm
      have hxm := HC32.out _ (mem_at came _ hm)
      clear hm hwr
      generalize modN (al.getD n 0) came.length = m at *
      generalize al.getD n 0 = z at *
      generalize came.getD m [] = sx at *
      have HXn : Hid (∀ y ∈ X ++ [sx], y.length = 32) := Lib.hid (fun y hy => by rcases List.mem_append.1 hy with hy | hy; exact HXX.out y hy; rw [List.mem_singleton] at hy; subst hy; exact hxm)
      have hr4 := hr.alloc (.cells #[.string ⟨List.toArray (sx)⟩] 9)
      have hb4 := Below.allocS hb (.cells #[.string ⟨List.toArray (sx)⟩] 9)
      clear hr hxm
      go_wp2_with fail
      refine (hbl _).mono ?_
      rintro e wz ⟨rfl, rfl⟩
      clear hbl
      go_wp2_with (first
        | (at_builtin; refine wpList_appSS rfl (.tmp 53) (.tmp 61) rfl w2.heap.size (.slice xa X.length xc) X rfl hr4 _ [sx] rfl (SS.of (l := [sx]) (by simp) (by unfold maxLen; omega) (by simp) (ssrc1 _ _ _)) (by simp; omega) hb4.size ?_; intro v6 w6 hr6 hb6)
        | fail)
      exact ⟨⟨n + 1, _, rfl, by omega, hr6, by simp; omega, HXn, hb4.trans hb6⟩, by simp [intOf]; omega⟩
    · have e : n = al.length := by omega
      subst e
      have d1 : decide ((al.length : Int) < (al.length : Int)) = false := by simp
      obtain ⟨w4, hnm⟩ := Below.nm hb
      subst hnm
      have hw4 := hw2.trans (hb.mono hw2.size)
      have HCMw4 := Lib.hid (HCMw2.out.keep hb)
      have HS4 := Lib.hid (HS.out.keep hb)
      have HRX := Lib.hid hr
      clear hr hb HS
      go_wp2_with fail
      clear d1
      go_loopw [10, 66] (fun s10 s66 wr => ∃ (n : Nat) (X : List Bs), s66 = .int .i64 (n) ∧ n ≤ bl.length ∧ SRow wr w4.heap.size s10 X ∧ X.length ≤ n ∧ Hid (∀ x ∈ X, x.length = 32) ∧ Below w4.heap.size w4 wr) (fun _ s66 _ => bl.length - (intOf s66).toNat)
      case atStart => exact ⟨0, [], rfl, Nat.zero_le _, SRow.nil _ _, Nat.le_refl _, Lib.hid (fun x hx => by cases hx), Below.refl _ _⟩
      case round =>
        obtain ⟨n, Y, rfl, hn, hr, hXl, HXY, hb⟩ := hrel
        obtain ⟨ya, yc, rfl⟩ := hr.form
        by_cases h1 : n < bl.length
        · have d1 : decide ((n : Int) < (bl.length : Int)) = true := by simp; omega
          have i0 : 0 ≤ (n : Int) ∧ (n : Int) < (bl.length : Int) := by omega
          have hwr := hw4.trans (hb.mono hw4.size)
          obtain ⟨gi, oi, rfl, _, c0⟩ := (HI2.out.keep hwr).at' n h1
          have hm := modN_lt (bl.getD n 0) came.length hc1
          have i1 : 0 ≤ (modN (bl.getD n 0) came.length : Int) ∧ (modN (bl.getD n 0) came.length : Int) < (came.length : Int) := by omega
          have hbl := below_any (bl.getD n 0) came.length hc1 (by omega)
          obtain ⟨gc, oc, rfl, _, c1⟩ := (HCMw4.out.keep hb).ss.at' _ hm
          have hxm := HC32.out _ (mem_at came _ hm)
          clear hm hwr
          generalize modN (bl.getD n 0) came.length = m at *
          generalize bl.getD n 0 = z at *
          generalize came.getD m [] = sx at *
          have HXn : Hid (∀ y ∈ Y ++ [sx], y.length = 32) := Lib.hid (fun y hy => by rcases List.mem_append.1 hy with hy | hy; exact HXY.out y hy; rw [List.mem_singleton] at hy; subst hy; exact hxm)
          have hr4 := hr.alloc (.cells #[.string ⟨List.toArray (sx)⟩] 9)
          have hb4 := Below.allocS hb (.cells #[.string ⟨List.toArray (sx)⟩] 9)
          clear hr hxm
          go_wp2_with fail
          refine (hbl _).mono ?_
          rintro e wz ⟨rfl, rfl⟩
          clear hbl
          go_wp2_with (first
            | (at_builtin; refine wpList_appSS rfl (.tmp 70) (.tmp 78) rfl w4.heap.size (.slice ya Y.length yc) Y rfl hr4 _ [sx] rfl (SS.of (l := [sx]) (by simp) (by unfold maxLen; omega) (by simp) (ssrc1 _ _ _)) (by simp; omega) hb4.size ?_; intro v6 w6 hr6 hb6)
            | fail)
          exact ⟨⟨n + 1, _, rfl, by omega, hr6, by simp; omega, HXn, hb4.trans hb6⟩, by simp [intOf]; omega⟩
        · have e : n = bl.length := by omega
          subst e
          have d1 : decide ((bl.length : Int) < (bl.length : Int)) = false := by simp
          obtain ⟨w5, hnm⟩ := Below.nm hb
          subst hnm
          have hw5 := hw4.trans (hb.mono hw4.size)
          have hS5 := HS4.out.keep hb
          have hX5 := HRX.out.keep hb
          have hY5 := hr
          clear hr hb
          have hx := sreach_any B0 w2.heap.size p b T HSH.out hT (.slice xa X.length xc) X (by omega) (fun x hx => by rw [HXX.out x hx]; omega) w5 hS5 hX5
          go_wp2_with fail
          refine hx.mono ?_
          rintro e w6 ⟨vp, P, rfl, hrP, hisP, hPk, hPT, hb6⟩
          clear hx d1
          obtain ⟨pa, pc, rfl⟩ := hrP.form
          have hS6 := hS5.keep hb6
          have hX6 := hX5.keep hb6
          have hY6 := hY5.keep hb6
          have hw6 := hw5.trans (hb6.mono hw5.size)
          have hy := sreach_any B0 w4.heap.size p b T HSH.out hT (.slice ya Y.length yc) Y (by omega) (fun x hx => by rw [HXY.out x hx]; omega) w6 hS6 hY6
          clear hS5 hX5 hY5 hb6 hw5
          go_wp2_with fail
          refine hy.mono ?_
          rintro e w7 ⟨vq, Q, rfl, hrQ, hisQ, hQk, hQT, hb7⟩
          clear hy
          obtain ⟨qa, qc, rfl⟩ := hrQ.form
          have hw7 := hw6.trans (hb7.mono hw6.size)
          have HS7 := Lib.hid (hS6.keep hb7)
          have HX7 := Lib.hid (hX6.keep hb7)
          have HY7 := Lib.hid (hY6.keep hb7)
          have HP7 := Lib.hid (hrP.keep hb7)
          have HQ7 := Lib.hid hrQ
          have HISP := Lib.hid hisP
          have HISQ := Lib.hid hisQ
          have HMK : Hid (∀ x ∈ P ++ Q, x ∈ keysE T) := Lib.hid (fun x hx => by rcases List.mem_append.1 hx with h | h; exact hPk x h; exact hQk x h)
          have HPK := Lib.hid hPk
          clear hS6 hX6 hY6 hrP hrQ hb7 hw6 hisP hisQ hPk hQk
          have hown0 : (w7.alloc (.map #[] 0)).ownsMap (H := Unit) Tryd.prog 9 (plainElem Tryd.prog 3) w7.heap.size 0 (.map []) := World.ownsMap_made _ _ _ _
          have hba : Below w7.heap.size w7 (w7.alloc (.map #[] 0)) := (Below.refl _ _).alloc (Nat.le_refl _) _
          have hb8 : Below w7.heap.size w7 ((w7.alloc (.map #[] 0)).alloc (.cells #[] 9)) := Below.allocS hba _
          have hown1 : ((w7.alloc (.map #[] 0)).alloc (.cells #[] 9)).ownsMap (H := Unit) Tryd.prog 9 (plainElem Tryd.prog 3) w7.heap.size 0 (.map []) := ownsMap_at hown0 (Below.heap_alloc _ _ _ (by simp))
          have hr8 : SRow ((w7.alloc (.map #[] 0)).alloc (.cells #[] 9)) (w7.heap.size + 1) (.slice (some ⟨w7.heap.size + 1, 0, none⟩) 0 0) [] := srow_empty (Nat.le_refl _) (by have := heap_alloc_new (w7.alloc (.map #[] 0)) (.cells #[] 9); simpa using this)
          have hP8 := (HP7.out.keep hb8).ss
          have hs8 : w7.heap.size + 1 ≤ ((w7.alloc (.map #[] 0)).alloc (.cells #[] 9)).heap.size := by simp
          have HB8 := Lib.hid hb8
          have HOWN1 := Lib.hid hown1
          clear hown0 hba hb8 hown1
          have hmm := @run_makeMap Tryd.prog
          go_wp2_with (first
            | (at_builtin; refine wpList_appSS rfl (.tmp 88) (.tmp 89) rfl (w7.heap.size + 1) _ [] rfl hr8 _ P rfl hP8 (by simp; omega) hs8 ?_; intro v9 w9 hr9 hb9
               rw [List.nil_append] at hr9
               have hb79 := HB8.out.trans (hb9.mono (by omega))
               have hQ9 := (HQ7.out.keep hb79).ss
               have hs9 := Nat.le_trans hs8 hb9.size
               have HOWN9 := Lib.hid (ownsMap_at HOWN1.out (hb9.block w7.heap.size (by omega))))
            | (at_builtin; refine wpList_appSS rfl (.tmp 90) (.tmp 91) rfl (w7.heap.size + 1) _ P rfl hr9 _ Q rfl hQ9 (by omega) hs9 ?_; intro v10 w10 hr10 hb10
               obtain ⟨ma, mc, rfl⟩ := hr10.form)
            | fail)
          have hb710 := hb79.trans (hb10.mono (by omega))
          have hown10 := ownsMap_at HOWN9.out (hb10.block w7.heap.size (by omega))
          have hML : (P ++ Q).length ≤ 60 := by simp; omega
          have HMEM : Hid (∀ k, k ∈ P ++ Q ↔ k ∈ P ∨ k ∈ Q) := Lib.hid (fun k => List.mem_append)
          clear hmm hr8 hP8 hs8 HB8 HOWN1 hr9 hb79 hQ9 hs9 HOWN9 hb9 hb10
          have HLN : Hid ((P ++ Q).length = P.length + Q.length) := Lib.hid List.length_append
          generalize P ++ Q = M at *
          go_loopw [94] (fun s94 wr => ∃ (n : Nat) (D : DataW Unit) (E : List Bs), s94 = .int .i64 (n) ∧ n ≤ M.length ∧ wr.ownsMap Tryd.prog 9 (plainElem Tryd.prog 3) w7.heap.size n D ∧ CntD D (M.take n) E ∧ SRow wr (w7.heap.size + 1) (.slice ma M.length mc) M ∧ Below w7.heap.size w7 wr) (fun s94 _ => M.length - (intOf s94).toNat)
          case atStart => exact ⟨0, _, [], rfl, Nat.zero_le _, hown10, CntD.start, hr10, hb710⟩
          case round =>
            obtain ⟨n, D, E, rfl, hn, hown, hC, hrM, hb⟩ := hrel
            clear hr10 hb710 hown10
            by_cases h1 : n < M.length
            · have d1 : decide ((n : Int) < (M.length : Int)) = true := by simp; omega
              have i0 : 0 ≤ (n : Int) ∧ (n : Int) < (M.length : Int) := by omega
              have d2 : decide ((n : Int) < (P.length : Int) + (Q.length : Int)) = true := by have := HLN.out; simp; omega
              have i2 : (n : Int) < (P.length : Int) + (Q.length : Int) := by have := HLN.out; omega
              obtain ⟨g, off, e, c0⟩ := hrM.ss.at n h1
              have hxm : (M.getD n []).length ≤ maxLen := by rw [HK32.out _ (HMK.out _ (mem_at M n h1))]; unfold maxLen; omega
              have htk := Pl.takeS M n h1
              generalize M.getD n [] = x at *
              obtain ⟨c, hrunI, hat, _⟩ := hown.lookup_int keyedS Tryd.underlying70 Tryd.underlying3 (zeroI _) (keyS x hxm)
              rw [hC.val] at hat
              have hc : c = (((M.take n).count x : Nat) : Int) := by
                injection hat with hat
                injection hat with _ hat
                exact hat.symm
              have hcn : (M.take n).count x ≤ 60 := by have := List.count_le_length (a := x) (l := M.take n); have := List.length_take_le n M; omega
              have htd := hown.tidy keyedS
              obtain ⟨E', hC', _⟩ := hC.put htd x
              rw [← htk] at hC'
              clear hat htk
              generalize (M.take n).count x = cn at *
              subst hc
              have hwf : (Lit.int .i64 ((cn : Int) + 1)).wf = true := by
                have := wrap64_wf ((cn : Int) + 1)
                rwa [show wrap64 ((cn : Int) + 1) = (cn : Int) + 1 from by unfold wrap64; omega] at this
              obtain ⟨w11, hrun2, hown2, hg2⟩ := hown.update keyedS Tryd.underlying70 (by unfold maxLen; omega) (keyS x hxm) (show plainElem Tryd.prog 3 (.int .i64 (((cn : Int) + 1))) = some (.lit (.int .i64 ((cn : Int) + 1)), []) from plainElem_int Tryd.underlying3 hwf)
              have hb11 := hb.trans (grown_below hg2 hb.size (fun k hk => by injection hk with hk; omega))
              have hrM2 := hrM.past hg2 (by omega)
              subst e
              have HC' := Lib.hid hC'
              have HOWN2 := Lib.hid hown2
              have HRM2 := Lib.hid hrM2
              clear hown hC hrM hb hown2 hC' hrM2 htd hwf hg2
              go_wp2_with fail
              exact ⟨⟨n + 1, _, E', rfl, by omega, HOWN2.out, HC'.out, HRM2.out, hb11⟩, by simp [intOf]; omega⟩
            · have e : n = M.length := by omega
              subst e
              have d1 : decide ((M.length : Int) < (M.length : Int)) = false := by simp
              have d2 : decide ((M.length : Int) < (P.length : Int) + (Q.length : Int)) = false := by have := HLN.out; simp; omega
              rw [List.take_length] at hC
              obtain ⟨w11, hnm⟩ := Below.nm hb
              subst hnm
              have hb12 : Below w11.heap.size w11 (w11.alloc (.cells #[] 9)) := Below.allocS (Below.refl _ _) _
              have hr12 : SRow (w11.alloc (.cells #[] 9)) w11.heap.size (.slice (some ⟨w11.heap.size, 0, none⟩) 0 0) [] := srow_empty (Nat.le_refl _) (heap_alloc_new w11 _)
              have hX12 := ((HX7.out.keep hb).keep hb12).ss
              have hs12 : w11.heap.size ≤ (w11.alloc (.cells #[] 9)).heap.size := hb12.size
              have HB := Lib.hid hb
              have HB12 := Lib.hid hb12
              have HOWN := Lib.hid hown
              have HC := Lib.hid hC
              clear hb hb12 hown hC hrM
              go_wp2_with (first
                | (at_builtin; refine wpList_appSS rfl (.tmp 104) (.tmp 105) rfl w11.heap.size _ [] rfl hr12 _ X rfl hX12 (by simp; omega) hs12 ?_; intro v13 w13 hr13 hb13
                   rw [List.nil_append] at hr13
                   have hb1113 := HB12.out.trans hb13
                   have hY13 := ((HY7.out.keep HB.out).keep hb1113).ss)
                | (at_builtin; refine wpList_appSS rfl (.tmp 106) (.tmp 107) rfl w11.heap.size _ X rfl hr13 _ Y rfl hY13 (by omega) hb1113.size ?_; intro v14 w14 hr14 hb14)
                | fail)
              have hb1114 := hb1113.trans hb14
              have hS14 := (HS7.out.keep HB.out).keep hb1114
              refine (sreach_any B0 w11.heap.size p b T HSH.out hT v14 (X ++ Y) (by simp; omega) (fun x hx => by rcases List.mem_append.1 hx with h | h; rw [HXX.out x h]; omega; rw [HXY.out x h]; omega) _ hS14 hr14).mono ?_
              rintro e w15 ⟨v15, L, rfl, hrL, hisL, hLk, hLT, hb15⟩
              obtain ⟨la, lc, rfl⟩ := hrL.form
              have hb1115 := hb1114.trans (hb15.mono hb1114.size)
              have hLm : ∀ k, k ∈ L ↔ k ∈ M := fun k => by rw [hisL.2, rch_join, ← HISP.out.2, ← HISQ.out.2, HMEM.out]
              have hlen := HC.out.len hisL.nodup hLm
              have hS15 := hS14.keep hb15
              have hqs := HB.out.size
              have hqlt : w7.heap.size < w11.heap.size := HOWN.out.lt
              have hown15 := ownsMap_at HOWN.out (hb1115.block w7.heap.size hqlt)
              have hlm := fun ty => hown15.len Tryd.underlying70 ty
              rw [HC.out.size, ← hlen] at hlm
              have HOWN15 := Lib.hid hown15
              have HRL := Lib.hid hrL
              have HS15 := Lib.hid hS15
              have HLM := Lib.hid hLm
              have HP15 := Lib.hid ((HP7.out.keep HB.out).keep hb1115)
              have hw15 := (hw7.trans (HB.out.mono hw7.size)).trans (hb1115.mono (hw7.trans (HB.out.mono hw7.size)).size)
              clear hb1115 hb1114 hb15 hS14 hr14 hb14 hX12 hr12 hs12 hb1113 hr13 hb13 hY13 hLm hlen hS15 hown15 hrL d1
              go_wp2_with fail
              clear hlm
              go_loopw [117] (fun s117 wr => ∃ (n : Nat), s117 = .int .i64 (n) ∧ n ≤ L.length ∧ Below w15.heap.size w15 wr) (fun s117 _ => L.length - (intOf s117).toNat)
              case atStart => exact ⟨0, rfl, Nat.zero_le _, Below.refl _ _⟩
              case round =>
                obtain ⟨n, rfl, hn, hb⟩ := hrel
                by_cases h1 : n < L.length
                · have d1 : decide ((n : Int) < (L.length : Int)) = true := by simp; omega
                  have i0 : 0 ≤ (n : Int) ∧ (n : Int) < (L.length : Int) := by omega
                  obtain ⟨g, off, rfl, c0⟩ := (HRL.out.keep hb).ss.at n h1
                  have hxM := (HLM.out _).1 (mem_at L n h1)
                  have hxm : (L.getD n []).length ≤ maxLen := by rw [HK32.out _ (HMK.out _ hxM)]; unfold maxLen; omega
                  have hpos := HC.out.pos hxM
                  clear hxM
                  generalize L.getD n [] = x at *
                  have hownr := ownsMap_at HOWN15.out (hb.block w7.heap.size (Nat.lt_of_lt_of_le HOWN15.out.lt (Nat.le_refl _)))
                  obtain ⟨c, hrunI, hat, _⟩ := hownr.lookup_int keyedS Tryd.underlying70 Tryd.underlying3 (zeroI _) (keyS x hxm)
                  rw [HC.out.val] at hat
                  have hc : c = ((M.count x : Nat) : Int) := by
                    injection hat with hat
                    injection hat with _ hat
                    exact hat.symm
                  have z0 : (c == 0) = false := by rw [beq_eq_false_iff_ne]; omega
                  clear hat hc hpos hownr
                  go_wp2_with fail
                  exact ⟨⟨n + 1, rfl, by omega, hb⟩, by simp [intOf]; omega⟩
                · have e : n = L.length := by omega
                  subst e
                  have d1 : decide ((L.length : Int) < (L.length : Int)) = false := by simp
                  have hre := sreach_any B0 w5.heap.size p b T HSH.out hT (.slice pa P.length pc) P (by omega) (fun x hx => by rw [HK32.out x (HPK.out x hx)]; omega) _ (HS15.out.keep hb) (HP15.out.keep hb)
                  go_wp2_with fail
                  refine hre.mono ?_
                  rintro e w16 ⟨v16, L2, rfl, hr16, hisr, _, _, hb16⟩
                  obtain rfl := hisr.uniq HISP.out.closed
                  obtain ⟨l16, c16, rfl⟩ := hr16.form
                  have hst := sametexts_selfB _ _ L2 w16 hr16.ss ((HP15.out.keep hb).keep hb16).ss
                  clear hre
                  have hw16 := (hw15.trans (hb.mono hw15.size)).trans (hb16.mono (hw15.trans (hb.mono hw15.size)).size)
                  go_wp2_with fail
                  refine hst.mono ?_
                  rintro e w17 ⟨rfl, hb17⟩
                  go_wp2_with fail
                  go_ret
                  exact ⟨rfl, hw16.trans (hb17.mono hw16.size)⟩
end Go.Proofs.YtbnjhfkmdejeaaaDoor
