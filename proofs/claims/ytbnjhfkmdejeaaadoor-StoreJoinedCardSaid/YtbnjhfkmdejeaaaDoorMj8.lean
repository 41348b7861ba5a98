/- ReachL, SSums, SKeeps. -/
import Derived.Test.YtbnjhfkmdejeaaaDoorMg17
import Derived.Test.YtbnjhfkmdejeaaaDoorMj6
import Derived.Test.YtbnjhfkmdejeaaaDoorMj7
set_option linter.unnecessarySimpa false

/- Plain: what is reached together, what is reached of what was kept. -/
set_option linter.unusedSimpArgs false
set_option linter.unusedVariables false
namespace Go.Proofs.YtbnjhfkmdejeaaaDoor
open Go.RowKit Pl

theorem rch_key {T : List Ent} {S : List Bs} {s : Bs} (h : Rch T S s) : s ∈ keysE T := by cases h <;> assumption
theorem rch_join {T : List Ent} {P R : List Bs} {s : Bs} : Rch T (P ++ R) s ↔ Rch T P s ∨ Rch T R s := by
  constructor
  · intro h
    induction h with
    | start h1 h2 =>
      rcases List.mem_append.1 h1 with h | h
      · exact .inl (.start h h2)
      · exact .inr (.start h h2)
    | step _ h1 h2 ih =>
      rcases ih with h | h
      · exact .inl (.step h h1 h2)
      · exact .inr (.step h h1 h2)
  · rintro (h | h)
    · induction h with
      | start h1 h2 => exact .start (List.mem_append.2 (.inl h1)) h2
      | step _ h1 h2 ih => exact .step ih h1 h2
    · induction h with
      | start h1 h2 => exact .start (List.mem_append.2 (.inr h1)) h2
      | step _ h1 h2 ih => exact .step ih h1 h2
theorem rch_closed {T : List Ent} {S P : List Bs} (hP : ∀ s, s ∈ P ↔ Rch T S s) (s : Bs) : Rch T P s ↔ Rch T S s := by
  constructor
  · intro h
    induction h with
    | start h1 h2 => exact (hP _).1 h1
    | step _ h1 h2 ih => exact .step ih h1 h2
  · exact fun h => .start ((hP _).2 h) (rch_key h)
theorem IsR.closed {T : List Ent} {S P : List Bs} (h : IsR T S P) : IsR T P P := ⟨h.1, fun s => (h.2 s).trans (rch_closed h.2 s).symm⟩
theorem get_keep {T : List Ent} {I : List Bs} {k : Bs} (hk : k ∈ I) : getT (keepT T I) k = getT T k := by
  unfold getT keepT
  rw [List.find?_filter]
  congr 2
  funext e
  by_cases he : e.1 = k
  · simp [he, hk]
  · simp [he]
theorem keep_keys {T : List Ent} {I : List Bs} {k : Bs} : k ∈ keysE (keepT T I) ↔ k ∈ keysE T ∧ k ∈ I := by
  unfold keysE keepT
  simp only [List.mem_map, List.mem_filter, decide_eq_true_eq]
  constructor
  · rintro ⟨e, ⟨h1, h2⟩, rfl⟩
    exact ⟨⟨e, h1, rfl⟩, h2⟩
  · rintro ⟨⟨e, h1, rfl⟩, h2⟩
    exact ⟨e, ⟨h1, h2⟩, rfl⟩
theorem keep_nodup {T : List Ent} {I : List Bs} (h : (keysE T).Nodup) : (keysE (keepT T I)).Nodup := by
  unfold keysE keepT at *
  exact h.sublist ((List.filter_sublist (l := T)).map _)
theorem kids_keep {T : List Ent} {I : List Bs} {k : Bs} (hk : k ∈ I) (hT : k ∈ keysE T) : kidsT (keepT T I) k = kidsT T k := by
  unfold kidsT
  rw [nodeT_in hT, nodeT_in (keep_keys.2 ⟨hT, hk⟩), get_keep hk]
theorem rch_keep {T : List Ent} {S I : List Bs} (hI : ∀ s, s ∈ I ↔ Rch T S s) (s : Bs) : Rch (keepT T I) S s ↔ Rch T S s := by
  constructor
  · intro h
    induction h with
    | start h1 h2 => exact .start h1 (keep_keys.1 h2).1
    | step _ h1 h2 ih =>
      rw [kids_keep ((hI _).2 ih) (rch_key ih)] at h1
      exact .step ih h1 (keep_keys.1 h2).1
  · intro h
    induction h with
    | start h1 h2 => exact .start h1 (keep_keys.2 ⟨h2, (hI _).2 (.start h1 h2)⟩)
    | step h0 h1 h2 ih =>
      refine .step ih ?_ (keep_keys.2 ⟨h2, (hI _).2 (.step h0 h1 h2)⟩)
      rw [kids_keep ((hI _).2 h0) (rch_key h0)]
      exact h1
theorem keep_same {T : List Ent} {I : List Bs} (h : ∀ k ∈ keysE T, k ∈ I) : keepT T I = T := by
  unfold keepT
  rw [List.filter_eq_self]
  intro e he
  simpa using h e.1 (List.mem_map.2 ⟨e, he, rfl⟩)
/-- What was kept is just what was reached. -/
theorem keep_isr {T : List Ent} {S I : List Bs} (hn : (keysE T).Nodup) (hI : ∀ s, s ∈ I ↔ Rch T S s) : IsR T S (sortB (keysE (keepT T I))) :=
  ⟨sort_lt (keep_nodup hn), fun s => by rw [(sortB_perm _).mem_iff, keep_keys, hI]; exact ⟨fun h => h.2, fun h => ⟨rch_key h, h⟩⟩⟩
theorem keep_sorted {T : List Ent} {S I L : List Bs} (hn : (keysE T).Nodup) (hI : ∀ s, s ∈ I ↔ Rch T S s) (hL : IsR T S L) : sortB (keysE (keepT T I)) = L := (keep_isr hn hI).uniq hL
theorem keep_len {T : List Ent} {S I L : List Bs} (hn : (keysE T).Nodup) (hI : ∀ s, s ∈ I ↔ Rch T S s) (hL : IsR T S L) : (keepT T I).length = L.length := by
  rw [← keep_sorted hn hI hL, (sortB_perm _).length_eq]
  simp [keysE]
theorem IsR.keep {T : List Ent} {S I L : List Bs} (hI : ∀ s, s ∈ I ↔ Rch T S s) (h : IsR (keepT T I) S L) : IsR T S L := ⟨h.1, fun s => (h.2 s).trans (rch_keep hI s)⟩
/-- To keep it again takes nothing. -/
theorem keep_again {T : List Ent} {S I J : List Bs} (hI : ∀ s, s ∈ I ↔ Rch T S s) (hJ : ∀ s, s ∈ J ↔ Rch (keepT T I) S s) : keepT (keepT T I) J = keepT T I :=
  keep_same (fun k hk => (hJ k).2 ((rch_keep hI k).2 ((hI k).1 (keep_keys.1 hk).2)))
theorem ShortE.keep {T : List Ent} {I : List Bs} (h : ShortE T) : ShortE (keepT T I) := fun e he => h e (List.mem_filter.1 he).1
theorem keep_le (T : List Ent) (I : List Bs) : (keepT T I).length ≤ T.length := List.length_filter_le _ _
theorem Filled.short {T : List Ent} {came : List Bs} (h : Filled T came) : ShortE T := fun e he => (h.txt e he).1
end Go.Proofs.YtbnjhfkmdejeaaaDoor

/- By its sum: the walk of StoreSums. -/
set_option linter.unusedSimpArgs false
set_option linter.unusedVariables false
namespace Go.Proofs.YtbnjhfkmdejeaaaDoor
open Go.RowKit Go.WideMaps Go.Maps Go.Sort Go.Shelf Pl

theorem mem_at (L : List Bs) (n : Nat) (h : n < L.length) : L.getD n [] ∈ L := by
  rw [List.getD_eq_getElem?_getD, List.getElem?_eq_getElem h]
  exact List.getElem_mem _
theorem rise_at {L : List Bs} (h : L.Pairwise (fun x y => x < y)) (m : Nat) (hm : m + 1 < L.length) : leS (L.getD (m + 1) []) (L.getD m []) = false := by
  rw [leS_false, List.getD_eq_getElem?_getD, List.getD_eq_getElem?_getD, List.getElem?_eq_getElem hm, List.getElem?_eq_getElem (by omega)]
  exact List.pairwise_iff_getElem.1 h m (m + 1) (by omega) hm (by omega)
theorem Filled.k32 {T : List Ent} {came : List Bs} (h : Filled T came) : ∀ x ∈ keysE T, x.length = 32 := fun x hx => h.c32 x ((h.key x).1 hx)
set_option maxRecDepth 100000 in
set_option maxHeartbeats 4000000 in
theorem stosums_any (v : Value) (l : List ActP) (hsh : AShort l) (w : World) (hk : KT w) (hv : AS w v l) :
    Calls Tryd.prog 7 #[v] w fun e w' => e = .returned (.bool true) ∧ Below w.heap.size w w' := by
  have hws := works9_any w hk
  obtain ⟨va, vc, rfl⟩ := hv.form
  have HV := Lib.hid hv
  have HSH := Lib.hid hsh
  clear hv hsh
  go_enter Tryd.func7, Tryd.ntmps7
  go_wp2_with fail
  refine hws.mono ?_
  rintro e w1 ⟨rfl, hb1⟩
  have hfl := fill_any _ l HSH.out w1 (hk.keep hb1) (HV.out.keep hb1)
  clear hws
  go_wp2_with fail
  refine hfl.mono ?_
  rintro e w2 ⟨p, b, u, T, came, rfl, hS2, hr2, hbb, hF, hc30, hb2⟩
  clear hfl
  have hT : T.length ≤ 1000 := by have := hF.len; omega
  have hss := ssums_any w1.heap.size p b T hT w2 hS2
  have HL : Hid ((sortB (keysE T)).length = T.length) := Lib.hid (by rw [(sortB_perm _).length_eq]; simp [keysE])
  have HLT := Lib.hid (sort_lt hF.nodup)
  have HMEM : Hid (∀ x, x ∈ sortB (keysE T) ↔ x ∈ keysE T) := Lib.hid (fun x => (sortB_perm _).mem_iff)
  have hle := hF.len
  have HF := Lib.hid hF
  clear hF
  obtain ⟨ua, uc, rfl⟩ := hr2.form
  go_wp2_with fail
  refine hss.mono ?_
  rintro e w3 ⟨v3, rfl, hr3, hb3⟩
  clear hss
  generalize sortB (keysE T) = L at *
  obtain ⟨la, lc, rfl⟩ := hr3.form
  have hbw := hb1.trans (hb2.mono hb1.size)
  have hbw3 := hbw.trans (hb3.mono hbw.size)
  have hk3 := hk.keep hbw3
  have HS := Lib.hid (hS2.keep hb3)
  have HC := Lib.hid (hr2.keep hb3)
  have HR := Lib.hid hr3
  clear hS2 hr2 hr3 hb1 hb2 hb3 hbw
  go_wp2_with fail
  go_loopw [27] (fun s27 wr => ∃ (n : Nat), s27 = .int .i64 (n) ∧ n ≤ L.length ∧ Below w3.heap.size w3 wr) (fun s27 _ => L.length - (intOf s27).toNat)
  case atStart => exact ⟨0, rfl, Nat.zero_le _, Below.refl _ _⟩
  case round =>
    obtain ⟨n, rfl, hn, hb⟩ := hrel
    by_cases h1 : n < L.length
    · have d1 : decide ((n : Int) < (L.length : Int)) = true := by simp; omega
      have i0 : 0 ≤ (n : Int) ∧ (n : Int) < (L.length : Int) := by omega
      have hxm : L.getD n [] ∈ keysE T := (HMEM.out _).1 (mem_at L n h1)
      obtain ⟨t, ht⟩ := mem_keys.1 hxm
      obtain ⟨ht1, ht2⟩ := HF.out.txt _ ht
      simp only at ht1 ht2
      have hget := sget_any w1.heap.size p b T (L.getD n []) (by rw [HF.out.k32 _ hxm]; unfold maxLen; omega) _ (HS.out.keep hb)
      rw [get_of HF.out.nodup ht, decide_eq_true hxm, Option.getD_some] at hget
      have HX := Lib.hid ht2
      obtain ⟨g, off, rfl, c0⟩ := (HR.out.keep hb).ss.at n h1
      have HRn : Hid (∀ m, n = m + 1 → leS (L.getD n []) (L.getD m []) = false) := Lib.hid (fun m e => by subst e; exact rise_at HLT.out m h1)
      clear ht2 hxm ht
      generalize hx : L.getD n [] = x at *
      go_wp2_with fail
      refine hget.mono ?_
      rintro e w4 ⟨rfl, hb4⟩
      have hb34 := hb.trans (hb4.mono hb.size)
      have hdg := digsum_ok 1 (by omega) (by omega) t (by omega) w4 (hk3.keep hb34)
      rw [← HX.out] at hdg
      clear hget c0 hb4 d1
      go_wp2_with fail
      refine hdg.mono ?_
      rintro e w5 ⟨rfl, hb5⟩
      have hb35 := hb34.trans (hb5.mono hb34.size)
      clear hdg hb34 hb5
      rcases n with _ | m
      · go_wp2_with fail
        exact ⟨⟨1, rfl, by omega, hb35⟩, by simp [intOf]; omega⟩
      · have q1 := HRn.out m rfl
        obtain ⟨g', off', e, c1⟩ := (HR.out.keep hb35).ss.at m (by omega)
        injection e with e
        injection e with e1 e2 _
        subst e1 e2
        generalize L.getD m [] = y at *
        have wm : wrap64 (m : Int) = (m : Int) := wrap64_nat m (by have := (HR.out.ss).small; omega)
        have wm2 : wrap64 ((m : Int) + 1 + 1) = (m : Int) + 1 + 1 := wrap64_nat (m + 2) (by have := (HR.out.ss).small; omega)
        have i1 : 0 ≤ (m : Int) ∧ (m : Int) < (L.length : Int) := by omega
        have d2 : decide (0 < ((m + 1 : Nat) : Int)) = true := by simp only [decide_eq_true_eq]; omega
        go_wp2_with fail
        rw [wm2]
        exact ⟨⟨m + 2, by simp; omega, by omega, hb35⟩, by simp [intOf]; omega⟩
    · have e : n = L.length := by omega
      subst e
      have d1 : decide ((L.length : Int) < (L.length : Int)) = false := by simp
      have hbw4 := hbw3.trans (hb.mono hbw3.size)
      have HS4 := Lib.hid (HS.out.keep hb)
      have HC4 := Lib.hid (HC.out.keep hb)
      clear hb
      go_wp2_with fail
      go_loopw [70] (fun s70 w' => ∃ (n : Nat), s70 = .int .i64 (n) ∧ n ≤ came.length ∧ Below wr.heap.size wr w') (fun s70 _ => came.length - (intOf s70).toNat)
      case atStart => exact ⟨0, rfl, Nat.zero_le _, Below.refl _ _⟩
      case round =>
        obtain ⟨n, rfl, hn, hb⟩ := hrel
        by_cases h1 : n < came.length
        · have d1 : decide ((n : Int) < (came.length : Int)) = true := by simp; omega
          have i0 : 0 ≤ (n : Int) ∧ (n : Int) < (came.length : Int) := by omega
          have hxm : came.getD n [] ∈ keysE T := (HF.out.key _).2 (mem_at came n h1)
          have hget := sget_any w1.heap.size p b T (came.getD n []) (by rw [HF.out.k32 _ hxm]; unfold maxLen; omega) _ (HS4.out.keep hb)
          rw [decide_eq_true hxm] at hget
          obtain ⟨g, off, rfl, c0⟩ := (HC4.out.keep hb).ss.at n h1
          clear hxm
          generalize came.getD n [] = x at *
          generalize (getT T x).getD [] = t at *
          go_wp2_with fail
          refine hget.mono ?_
          rintro e w4 ⟨rfl, hb4⟩
          go_wp2_with fail
          exact ⟨⟨n + 1, rfl, by omega, hb.trans (hb4.mono hb.size)⟩, by simp [intOf]; omega⟩
        · have e : n = came.length := by omega
          subst e
          have d1 : decide ((came.length : Int) < (came.length : Int)) = false := by simp
          have d2 : decide (L.length ≤ came.length) = true := by have := HL.out; simp; omega
          go_wp2_with fail
          go_ret
          exact ⟨rfl, hbw4.trans (hb.mono hbw4.size)⟩
end Go.Proofs.YtbnjhfkmdejeaaaDoor

/- Just what is reached: the walk of StoreKeeps. -/
set_option linter.unusedSimpArgs false
set_option linter.unusedVariables false
namespace Go.Proofs.YtbnjhfkmdejeaaaDoor
open Go.RowKit Go.WideMaps Go.Maps Go.Sort Go.Shelf Pl

theorem SRow.past {w w' : World} {base b : Nat} {v : Value} {l : List Bs} (h : SRow w base v l) (hg : w.grownBy w' (some b)) (hb : b < base) : SRow w' base v l :=
  h.grown hg (fun k hk e => by have := h.own k hk; injection e with e; omega)
theorem srow_two {w : World} {base g : Nat} {a b : Bs} (hg : base ≤ g) (hh : w.heap[g]? = some (.cells #[.string ⟨List.toArray (a)⟩, .string ⟨List.toArray (b)⟩] 9)) : SRow w base (.slice (some ⟨g, 0, none⟩) 2 2) [a, b] :=
  ⟨rfl, .inr ⟨g, 2, _, rfl, hg, hh, Nat.le_refl _, by unfold maxLen; omega, rfl, rfl⟩⟩
theorem below_anyB (x : Int) (n : Nat) (h0 : 0 < n) (hn : n ≤ 1000000000) (w : World) :
    Calls Tryd.prog 37 #[.int .i64 (x), .int .i64 ((n : Int))] w fun e w' => e = .returned (.int .i64 ((modN x n : Int))) ∧ Below w.heap.size w w' :=
  (below_any x n h0 hn w).mono fun _ _ ⟨h, e⟩ => ⟨h, e ▸ Below.refl _ _⟩
set_option maxRecDepth 100000 in
set_option maxHeartbeats 8000000 in
theorem stokeeps_any (v : Value) (l : List ActP) (x y : Int) (hsh : AShort l) (w : World) (hk : KT w) (hv : AS w v l) :
    Calls Tryd.prog 9 #[v, .agg #[.int .i64 (x), .int .i64 (y)]] w fun e w' => e = .returned (.bool true) ∧ Below w.heap.size w w' := by
  have hb0 : Below w.heap.size w (w.alloc (.cells #[.int .i64 (x), .int .i64 (y)] 72)) := Below.allocS (Below.refl _ _) _
  have B0 : Blk (w.alloc (.cells #[.int .i64 (x), .int .i64 (y)] 72)) w.heap.size #[.int .i64 (x), .int .i64 (y)] := Blk.new _ _ _
  have hws := works9_any (w.alloc (.cells #[.int .i64 (x), .int .i64 (y)] 72)) (hk.keep hb0)
  obtain ⟨va, vc, rfl⟩ := hv.form
  have HV := Lib.hid hv
  have HSHA := Lib.hid hsh
  clear hv hsh
  go_enter Tryd.func9, Tryd.ntmps9
  go_wp2_with fail
  refine hws.mono ?_
  rintro e w1 ⟨rfl, hb⟩
  have hb1 := hb0.trans (hb.mono hb0.size)
  have B1 := B0.keep hb
  have hfl := fill_any _ l HSHA.out w1 (hk.keep hb1) (HV.out.keep hb1)
  clear hws hb B0 hb0
  go_wp2_with fail
  refine hfl.mono ?_
  rintro e w2 ⟨p, b, u, T, came, rfl, hS2, hr2, hbb, hF, hc30, hb2⟩
  clear hfl
  obtain ⟨B0, hB0⟩ : ∃ B0, B0 = w1.heap.size := ⟨_, rfl⟩
  rw [← hB0] at hS2 hbb
  have hT : T.length ≤ 1000 := by have := hF.len; omega
  have HSH := Lib.hid hF.short
  have HND := Lib.hid hF.nodup
  have HKL : Hid (∀ x ∈ keysE T, x.length ≤ maxLen) := Lib.hid (fun x hx => by rw [hF.k32 x hx]; unfold maxLen; omega)
  have HC32 : Hid (∀ x ∈ came, x.length = 32) := Lib.hid hF.c32
  have hTc := hF.len
  clear hF
  have hfk := sfork_any B0 p b T w2 hS2
  have hbl := hS2.blt
  obtain ⟨ua, uc, rfl⟩ := hr2.form
  go_wp2_with fail
  refine hfk.mono ?_
  rintro e w3 ⟨p2, b2, rfl, hQ3, hp2, hb2n, hb3⟩
  have hw2 := hb1.trans (hb2.mono hb1.size)
  have hw3 := hw2.trans (hb3.mono hw2.size)
  have hP3 := hS2.keep hb3
  have hr3 := hr2.keep hb3
  have B3 := B1.keep (hb2.trans (hb3.mono hb2.size))
  have hbw : w.heap.size ≤ b := by have := hb1.size; omega
  have hbb2 : b < b2 := by omega
  clear hfk hS2 hr2 hb1 hb2 hb3 hw2 hB0 B1 hbl hp2 hb2n hbb
  by_cases h0 : 0 < came.length
  · have d0 : decide (0 < (came.length : Int)) = true := by simp only [decide_eq_true_eq]; omega
    have i0 : 0 ≤ (modN x came.length : Int) ∧ (modN x came.length : Int) < (came.length : Int) := by have := modN_lt x came.length h0; omega
    have i1 : 0 ≤ (modN y came.length : Int) ∧ (modN y came.length : Int) < (came.length : Int) := by have := modN_lt y came.length h0; omega
    have hbx := below_anyB x came.length h0 (by omega)
    have hby := below_anyB y came.length h0 (by omega)
    obtain ⟨ga, oa, e, hga, cx⟩ := hr3.ss.at' (modN x came.length) (by omega)
    subst e
    obtain ⟨ga', oa', e, _, cy⟩ := hr3.ss.at' (modN y came.length) (by omega)
    injection e with e
    injection e with e1 e2 _
    subst e1 e2
    have hxm := mem_at came (modN x came.length) (by omega)
    have hym := mem_at came (modN y came.length) (by omega)
    generalize modN x came.length = nx at *
    generalize modN y came.length = ny at *
    generalize came.getD nx [] = sx at *
    generalize came.getD ny [] = sy at *
    have HSl : Hid (∀ x ∈ [sx, sy], x.length = 32) := Lib.hid (by intro x hx; rcases List.mem_cons.1 hx with rfl | hx; exact HC32.out _ hxm; rw [List.mem_singleton] at hx; subst hx; exact HC32.out _ hym)
    clear hxm hym
    go_wp2_with fail
    refine wpH_start (by kernel_rfl) (fun hS => ?_)
    (refine wpH_pure 0 ?_ (oi := { dst := some 31, op := Op.move (Operand.tmp 6), type := 26, pos := "theorems.go:74", after := #[], guard := none }) rfl (by kernel_rfl) (by kernel_rfl) (by kernel_rfl) (by rfl) hS (fun _ _ _ h => h) ?_ ?_; rotate_left; focus (intro w; go_simp; try with_reducible rfl))
    try simp only [Act.put, List.setIfInBounds_toArray, List.set_cons_zero, List.set_cons_succ]
    (refine wpH_pure 1 ?_ (oi := { dst := some 32, op := Op.indexAddr 72 (Operand.tmp 3) (Operand.const (Value.int IntKind.i64 0)), type := 0, pos := "theorems.go:74", after := #[], guard := none }) rfl (by kernel_rfl) (by kernel_rfl) (by kernel_rfl) (by rfl) hS (fun _ _ _ h => h) ?_ ?_; rotate_left; focus (intro w; go_simp; try with_reducible rfl))
    try simp only [Act.put, List.setIfInBounds_toArray, List.set_cons_zero, List.set_cons_succ]
    refine wpH_load 2 (.int .i64 (x)) (oi := { dst := some 33, op := Op.load 3 (Operand.tmp 32), type := 3, pos := "theorems.go:74", after := #[{ on := 1, ground := Ground.data }], guard := none }) rfl (by kernel_rfl) (by kernel_rfl) (by kernel_rfl) (by rfl) hS (fun _ _ _ h => h) (fun w hb4 => (by have c := (B3.keep hb4).cell 0; go_simp; try rfl)) ?_
    try simp only [Act.put, List.setIfInBounds_toArray, List.set_cons_zero, List.set_cons_succ]
    (refine wpH_pure 3 ?_ (oi := { dst := some 34, op := Op.move (Operand.tmp 6), type := 26, pos := "theorems.go:74", after := #[], guard := none }) rfl (by kernel_rfl) (by kernel_rfl) (by kernel_rfl) (by rfl) hS (fun _ _ _ h => h) ?_ ?_; rotate_left; focus (intro w; go_simp; try with_reducible rfl))
    try simp only [Act.put, List.setIfInBounds_toArray, List.set_cons_zero, List.set_cons_succ]
    (refine wpH_pure 4 ?_ (oi := { dst := some 35, op := Op.call { callee := Callee.builtin Builtin.len, args := #[Operand.tmp 34], argTypes := #[26] }, type := 3, pos := "theorems.go:74", after := #[{ on := 3, ground := Ground.data }], guard := none }) rfl (by kernel_rfl) (by kernel_rfl) (by kernel_rfl) (by rfl) hS (fun _ _ _ h => h) ?_ ?_; rotate_left; focus (intro w; go_simp; try with_reducible rfl))
    try simp only [Act.put, List.setIfInBounds_toArray, List.set_cons_zero, List.set_cons_succ]
    (refine wpH_pure 8 ?_ (oi := { dst := some 39, op := Op.move (Operand.tmp 6), type := 26, pos := "theorems.go:74", after := #[], guard := none }) rfl (by kernel_rfl) (by kernel_rfl) (by kernel_rfl) (by rfl) hS (fun _ _ _ h => h) ?_ ?_; rotate_left; focus (intro w; go_simp; try with_reducible rfl))
    try simp only [Act.put, List.setIfInBounds_toArray, List.set_cons_zero, List.set_cons_succ]
    (refine wpH_pure 9 ?_ (oi := { dst := some 40, op := Op.indexAddr 72 (Operand.tmp 3) (Operand.const (Value.int IntKind.i64 1)), type := 0, pos := "theorems.go:74", after := #[], guard := none }) rfl (by kernel_rfl) (by kernel_rfl) (by kernel_rfl) (by rfl) hS (fun _ _ _ h => h) ?_ ?_; rotate_left; focus (intro w; go_simp; try with_reducible rfl))
    try simp only [Act.put, List.setIfInBounds_toArray, List.set_cons_zero, List.set_cons_succ]
    refine wpH_load 10 (.int .i64 (y)) (oi := { dst := some 41, op := Op.load 3 (Operand.tmp 40), type := 3, pos := "theorems.go:74", after := #[{ on := 9, ground := Ground.data }], guard := none }) rfl (by kernel_rfl) (by kernel_rfl) (by kernel_rfl) (by rfl) hS (fun _ _ _ h => h) (fun w hb4 => (by have c := (B3.keep hb4).cell 1; go_simp; try rfl)) ?_
    try simp only [Act.put, List.setIfInBounds_toArray, List.set_cons_zero, List.set_cons_succ]
    (refine wpH_pure 11 ?_ (oi := { dst := some 42, op := Op.move (Operand.tmp 6), type := 26, pos := "theorems.go:74", after := #[], guard := none }) rfl (by kernel_rfl) (by kernel_rfl) (by kernel_rfl) (by rfl) hS (fun _ _ _ h => h) ?_ ?_; rotate_left; focus (intro w; go_simp; try with_reducible rfl))
    try simp only [Act.put, List.setIfInBounds_toArray, List.set_cons_zero, List.set_cons_succ]
    (refine wpH_pure 12 ?_ (oi := { dst := some 43, op := Op.call { callee := Callee.builtin Builtin.len, args := #[Operand.tmp 42], argTypes := #[26] }, type := 3, pos := "theorems.go:74", after := #[{ on := 11, ground := Ground.data }], guard := none }) rfl (by kernel_rfl) (by kernel_rfl) (by kernel_rfl) (by rfl) hS (fun _ _ _ h => h) ?_ ?_; rotate_left; focus (intro w; go_simp; try with_reducible rfl))
    try simp only [Act.put, List.setIfInBounds_toArray, List.set_cons_zero, List.set_cons_succ]
    refine wpH_call 5 (oi := { dst := some 36, op := Op.call { callee := Callee.value (Operand.func 37), args := #[Operand.tmp 33, Operand.tmp 35], argTypes := #[3, 3] }, type := 3, pos := "theorems.go:74", after := #[{ on := 2, ground := Ground.data }, { on := 4, ground := Ground.data }], guard := none }) rfl (by kernel_rfl) (by rfl) (hbx _) ?_ ?_
    · (go_simp; try rfl)
    rintro e w' ⟨rfl, hbx⟩
    refine ⟨_, rfl, hS.trans (hbx.mono hS.size), ?_⟩
    replace hS := hS.trans (hbx.mono hS.size)
    try simp only [Act.put, List.setIfInBounds_toArray, List.set_cons_zero, List.set_cons_succ]
    (refine wpH_pure 6 ?_ (oi := { dst := some 37, op := Op.indexAddr 26 (Operand.tmp 31) (Operand.tmp 36), type := 0, pos := "theorems.go:74", after := #[{ on := 0, ground := Ground.data }, { on := 5, ground := Ground.data }], guard := none }) rfl (by kernel_rfl) (by kernel_rfl) (by kernel_rfl) (by rfl) hS (fun _ _ _ h => h) ?_ ?_; rotate_left; focus (intro w; go_simp; try with_reducible rfl))
    try simp only [Act.put, List.setIfInBounds_toArray, List.set_cons_zero, List.set_cons_succ]
    refine wpH_load 7 (.string ⟨List.toArray (sx)⟩) (oi := { dst := some 38, op := Op.load 9 (Operand.tmp 37), type := 9, pos := "theorems.go:74", after := #[{ on := 6, ground := Ground.data }], guard := none }) rfl (by kernel_rfl) (by kernel_rfl) (by kernel_rfl) (by rfl) hS (fun _ _ _ h => h) (fun w hb4 => (by have c := (hb4.cell (p := ⟨ga, oa + nx, none⟩) hga).trans cx; go_simp; try rfl)) ?_
    try simp only [Act.put, List.setIfInBounds_toArray, List.set_cons_zero, List.set_cons_succ]
    refine wpH_call 13 (oi := { dst := some 44, op := Op.call { callee := Callee.value (Operand.func 37), args := #[Operand.tmp 41, Operand.tmp 43], argTypes := #[3, 3] }, type := 3, pos := "theorems.go:74", after := #[{ on := 10, ground := Ground.data }, { on := 12, ground := Ground.data }, { on := 5, ground := Ground.chain }], guard := none }) rfl (by kernel_rfl) (by rfl) (hby _) ?_ ?_
    · (go_simp; try rfl)
    rintro e w' ⟨rfl, hbx⟩
    refine ⟨_, rfl, hS.trans (hbx.mono hS.size), ?_⟩
    replace hS := hS.trans (hbx.mono hS.size)
    try simp only [Act.put, List.setIfInBounds_toArray, List.set_cons_zero, List.set_cons_succ]
    (refine wpH_pure 14 ?_ (oi := { dst := some 45, op := Op.indexAddr 26 (Operand.tmp 39) (Operand.tmp 44), type := 0, pos := "theorems.go:74", after := #[{ on := 8, ground := Ground.data }, { on := 13, ground := Ground.data }], guard := none }) rfl (by kernel_rfl) (by kernel_rfl) (by kernel_rfl) (by rfl) hS (fun _ _ _ h => h) ?_ ?_; rotate_left; focus (intro w; go_simp; try with_reducible rfl))
    try simp only [Act.put, List.setIfInBounds_toArray, List.set_cons_zero, List.set_cons_succ]
    refine wpH_load 15 (.string ⟨List.toArray (sy)⟩) (oi := { dst := some 46, op := Op.load 9 (Operand.tmp 45), type := 9, pos := "theorems.go:74", after := #[{ on := 14, ground := Ground.data }], guard := none }) rfl (by kernel_rfl) (by kernel_rfl) (by kernel_rfl) (by rfl) hS (fun _ _ _ h => h) (fun w hb4 => (by have c := (hb4.cell (p := ⟨ga, oa + ny, none⟩) hga).trans cy; go_simp; try rfl)) ?_
    try simp only [Act.put, List.setIfInBounds_toArray, List.set_cons_zero, List.set_cons_succ]
    refine wpH_op 16 (oi := { dst := some 47, op := Op.buildSlice 26 2 #[(0, Operand.tmp 38), (1, Operand.tmp 46)], type := 26, pos := "theorems.go:74", after := #[{ on := 7, ground := Ground.data }, { on := 15, ground := Ground.data }], guard := none }) rfl (by kernel_rfl) (by rfl) ?_
    refine wp_newK 9 #[.string ⟨List.toArray (sx)⟩, .string ⟨List.toArray (sy)⟩] (fun k => .slice (some ⟨k, 0, none⟩) 2 2) (fun w => by go_simp; try rfl) (fun k47 W0 hk47 hh47 hlt47 hbk47 => ?_)
    have hge : w3.heap.size ≤ _ := hS.size
    refine hold_and (hS.trans (hbk47.mono hS.size)) (fun hS => ?_)
    try simp only [Act.put, List.setIfInBounds_toArray, List.set_cons_zero, List.set_cons_succ]
    (refine wpH_pure 17 ?_ (oi := { dst := some 8, op := Op.assign (Operand.tmp 47), type := 26, pos := "theorems.go:74", after := #[{ on := 16, ground := Ground.data }, { on := 13, ground := Ground.chain }, { on := 0, ground := Ground.phase }, { on := 1, ground := Ground.phase }, { on := 2, ground := Ground.phase }, { on := 3, ground := Ground.phase }, { on := 4, ground := Ground.phase }, { on := 5, ground := Ground.phase }, { on := 6, ground := Ground.phase }, { on := 7, ground := Ground.phase }, { on := 8, ground := Ground.phase }, { on := 9, ground := Ground.phase }, { on := 10, ground := Ground.phase }, { on := 11, ground := Ground.phase }, { on := 12, ground := Ground.phase }, { on := 13, ground := Ground.phase }, { on := 14, ground := Ground.phase }, { on := 15, ground := Ground.phase }, { on := 16, ground := Ground.phase }], guard := none }) rfl (by kernel_rfl) (by kernel_rfl) (by kernel_rfl) (by rfl) hS (fun _ _ _ h => h) ?_ ?_; rotate_left; focus (intro w; go_simp; try with_reducible rfl))
    try simp only [Act.put, List.setIfInBounds_toArray, List.set_cons_zero, List.set_cons_succ]
    refine wpAnyH_done (by kernel_rfl) ?_ _
    have HU : Hid (SRow W0 (b + 1) (.slice (some ⟨k47, 0, none⟩) 2 2) [sx, sy]) := Lib.hid (srow_two (Nat.le_trans (Nat.succ_le_of_lt (Nat.lt_of_lt_of_le hP3.blt hge)) hk47) hh47)
    have HSp := Lib.hid (hP3.keep hS)
    have HSq := Lib.hid (hQ3.keep hS)
    have HW := Lib.hid (hw3.trans (hS.mono hw3.size))
    clear hS hP3 hQ3 hw3 hbx hby cx cy B3 hh47 hlt47 hbk47 hk47
    have hre := sreach_any B0 (b + 1) p b T HSH.out hT (.slice (some ⟨k47, 0, none⟩) 2 2) [sx, sy] (by simp) (fun x hx => by rw [HSl.out x hx]; omega) W0 HSp.out HU.out
    go_wp2_with fail
    refine hre.mono ?_
    rintro e w4 ⟨v9, L, rfl, hr9, hisr, hLk, hLT, hb4⟩
    clear hre
    obtain ⟨l9, c9, rfl⟩ := hr9.form
    have hp4 := HSp.out.keep hb4
    have hss := ssums_any B0 p b T hT w4 hp4
    have hssq := fun W h => ssums_any B0 p2 b2 T hT W h
    have HAL : Hid ((sortB (keysE T)).length = T.length) := Lib.hid (by rw [(sortB_perm _).length_eq]; simp [keysE])
    go_wp2_with fail
    refine hss.mono ?_
    rintro e w5 ⟨v10, rfl, hr10, hb5⟩
    clear hss
    generalize sortB (keysE T) = A at *
    obtain ⟨l10, c10, rfl⟩ := hr10.form
    have hp5 := hp4.keep hb5
    have hq5 := (HSq.out.keep hb4).keep hb5
    have hu5 := (HU.out.keep hb4).keep hb5
    have hw5 : Below w.heap.size w w5 := (HW.out.trans (hb4.mono HW.out.size)).trans (hb5.mono (HW.out.trans (hb4.mono HW.out.size)).size)
    have hk5 := skeep_any B0 (b + 1) p b T HSH.out hT (.slice (some ⟨k47, 0, none⟩) 2 2) [sx, sy] (by simp) (fun x hx => by rw [HSl.out x hx]; omega) HKL.out w5 hp5 hu5
    have h95 := hr9.keep hb5
    clear hr9 hp4
    go_wp2_with fail
    refine hk5.mono ?_
    rintro e w6 ⟨I, hI, rfl, hp6, hg6⟩
    clear hk5
    have hne : b ≠ b2 := by omega
    have hpb := hp5.blt
    have hpb0 := HSp.out.blt
    have hq6 := hq5.turned hg6 hp5.map hne.symm
    have h96 := h95.past hg6 (by omega)
    have h106 := hr10.past hg6 (by have := hb4.size; omega)
    have hu6 := hu5.past hg6 (by omega)
    have hw6 := hw5.trans (grown_below hg6 hw5.size (fun k hk => by injection hk with hk; omega))
    have hlen := keep_len HND.out hI hisr
    have e1 : ((T.length - (keepT T I).length : Nat) : Int) = (A.length : Int) - (L.length : Int) := by have := HAL.out; omega
    have wm : wrap64 ((A.length : Int) - (L.length : Int)) = (A.length : Int) - (L.length : Int) := by have := HAL.out; unfold wrap64; omega
    rw [e1]
    have hss2 := ssums_any B0 p b (keepT T I) (by omega) w6 hp6
    rw [keep_sorted HND.out hI hisr] at hss2
    have HT1 : Hid (∀ x ∈ L, (decide (x ∈ keysE (keepT T I)) = true) ∧ getT (keepT T I) x = getT T x) := Lib.hid (fun x hx => ⟨decide_eq_true (keep_keys.2 ⟨hLk x hx, (hI x).2 ((hisr.2 x).1 hx)⟩), get_keep ((hI x).2 ((hisr.2 x).1 hx))⟩)
    have HJ : Hid (∀ J, (∀ s, s ∈ J ↔ Rch (keepT T I) [sx, sy] s) → keepT (keepT T I) J = keepT T I) := Lib.hid (fun J hJ => keep_again hI hJ)
    have HR1 : Hid (∀ L', IsR (keepT T I) [sx, sy] L' → L' = L) := Lib.hid (fun L' h => (IsR.keep hI h).uniq hisr)
    have HSH1 : Hid (ShortE (keepT T I)) := Lib.hid (ShortE.keep HSH.out)
    have HKL1 : Hid (∀ x ∈ keysE (keepT T I), x.length ≤ maxLen) := Lib.hid (fun x hx => HKL.out x (keep_keys.1 hx).1)
    have HLK := Lib.hid hLk
    have hLb : L.length ≤ 1000 := by omega
    have HP6 := Lib.hid hp6
    have HQ6 := Lib.hid hq6
    have H96 := Lib.hid h96
    have H106 := Lib.hid h106
    have HU6 := Lib.hid hu6
    have hT1 : (keepT T I).length ≤ 1000 := by omega
    clear e1 hlen hg6 hu5 hq5 hp5 h95 hr10 hisr hI hLk hb4 hb5 hw5 hp6 hq6 h96 h106 hu6 HAL hLT
    generalize keepT T I = T1 at *
    go_wp2_with fail
    refine hss2.mono ?_
    rintro e w7 ⟨v11, rfl, hr11, hb7⟩
    clear hss2
    obtain ⟨l11, c11, rfl⟩ := hr11.form
    have hst := sametexts_selfB _ _ L w7 hr11.ss (H96.out.keep hb7).ss
    go_wp2_with fail
    refine hst.mono ?_
    rintro e w8 ⟨rfl, hb8⟩
    have hb68 := hb7.trans (hb8.mono hb7.size)
    have hs3 := hssq w8 (HQ6.out.keep hb68)
    clear hst hr11 hb7 hb8 hssq
    go_wp2_with fail
    refine hs3.mono ?_
    rintro e w9 ⟨v12, rfl, hr12, hb9⟩
    have hb69 := hb68.trans (hb9.mono hb68.size)
    obtain ⟨l12, c12, rfl⟩ := hr12.form
    have hst := sametexts_selfB _ _ A w9 hr12.ss (H106.out.keep hb69).ss
    clear hs3 hb68 hb9
    go_wp2_with fail
    refine hst.mono ?_
    rintro e w10 ⟨rfl, hb10⟩
    have hb0 := hb69.trans (hb10.mono hb69.size)
    clear hst hr12 hb69 hb10
    go_wp2_with fail
    clear wm
    go_loopw [78] (fun s78 wr => ∃ (n : Nat), s78 = .int .i64 (n) ∧ n ≤ L.length ∧ Below w6.heap.size w6 wr) (fun s78 _ => L.length - (intOf s78).toNat)
    case atStart => exact ⟨0, rfl, Nat.zero_le _, hb0⟩
    case round =>
      obtain ⟨n, rfl, hn, hb⟩ := hrel
      clear hb0
      by_cases h1 : n < L.length
      · have d1 : decide ((n : Int) < (L.length : Int)) = true := by simp; omega
        have i0 : 0 ≤ (n : Int) ∧ (n : Int) < (L.length : Int) := by omega
        have hxm : L.getD n [] ∈ L := mem_at L n h1
        obtain ⟨hk1, hgt⟩ := HT1.out _ hxm
        have hxk := HLK.out _ hxm
        have hxl : (L.getD n []).length ≤ maxLen := HKL.out _ hxk
        obtain ⟨t, ht⟩ := mem_keys.1 hxk
        have hga := sget_any B0 p2 b2 T (L.getD n []) hxl _ (HQ6.out.keep hb)
        have hgb := fun W h => sget_any B0 p b T1 (L.getD n []) hxl W h
        rw [hk1, hgt, get_of HND.out ht, Option.getD_some] at hgb
        rw [get_of HND.out ht, Option.getD_some] at hga
        obtain ⟨g9, o9, rfl, c0⟩ := (H96.out.keep hb).ss.at n h1
        clear hxm hk1 hgt hxk ht
        generalize L.getD n [] = x at *
        go_wp2_with fail
        refine hga.mono ?_
        rintro e w11 ⟨rfl, hb11⟩
        have hb2 := hb.trans (hb11.mono hb.size)
        have hgb2 := hgb w11 (HP6.out.keep hb2)
        clear hga hgb hb11 c0
        go_wp2_with fail
        refine hgb2.mono ?_
        rintro e w12 ⟨rfl, hb12⟩
        go_wp2_with fail
        exact ⟨⟨n + 1, rfl, by omega, hb2.trans (hb12.mono hb2.size)⟩, by simp [intOf]; omega⟩
      · have e : n = L.length := by omega
        subst e
        have d1 : decide ((L.length : Int) < (L.length : Int)) = false := by simp
        have hpr := HP6.out.keep hb
        have hk2 := skeep_any B0 (b + 1) p b T1 HSH1.out hT1 (.slice (some ⟨k47, 0, none⟩) 2 2) [sx, sy] (by simp) (fun x hx => by rw [HSl.out x hx]; omega) HKL1.out _ hpr (HU6.out.keep hb)
        go_wp2_with fail
        refine hk2.mono ?_
        rintro e w13 ⟨J, hJ, rfl, hp13, hg13⟩
        rw [HJ.out J hJ] at hp13 ⊢
        rw [Nat.sub_self]
        have hbs := hb.size
        have hpb6 := HP6.out.blt
        have hpl := hpr.blt
        have hu13 := (HU6.out.keep hb).past hg13 (by omega)
        have h913 := (H96.out.keep hb).past hg13 (by omega)
        have hw13 := (hw6.trans (hb.mono hw6.size)).trans (grown_below hg13 (hw6.trans (hb.mono hw6.size)).size (fun k hk => by injection hk with hk; omega))
        have hre := sreach_any B0 (b + 1) p b T1 HSH1.out hT1 (.slice (some ⟨k47, 0, none⟩) 2 2) [sx, sy] (by simp) (fun x hx => by rw [HSl.out x hx]; omega) w13 hp13 hu13
        clear hk2 hJ hg13 d1
        go_wp2_with fail
        refine hre.mono ?_
        rintro e w14 ⟨v14, L2, rfl, hr14, hisr, _, _, hb14⟩
        obtain rfl := HR1.out L2 hisr
        obtain ⟨l14, c14, rfl⟩ := hr14.form
        have hst := sametexts_selfB _ _ L2 w14 hr14.ss (h913.keep hb14).ss
        clear hre
        go_wp2_with fail
        refine hst.mono ?_
        rintro e w15 ⟨rfl, hb15⟩
        have hw14 := hw13.trans (hb14.mono hw13.size)
        go_wp2_with fail
        go_ret
        exact ⟨rfl, hw14.trans (hb15.mono hw14.size)⟩
  · have d0 : decide (0 < (came.length : Int)) = false := by simp only [decide_eq_false_iff_not]; omega
    have HU : Hid (SRow w3 (b + 1) (.slice none 0 0) []) := Lib.hid (SRow.nil _ _)
    have HSl : Hid (∀ x ∈ ([] : List Bs), x.length = 32) := Lib.hid (fun x hx => by cases hx)
    have HSp := Lib.hid hP3
    have HSq := Lib.hid hQ3
    have HW := Lib.hid hw3
    clear hP3 hQ3 hw3 B3
    have hre := sreach_any B0 (b + 1) p b T HSH.out hT (.slice none 0 0) ([] : List Bs) (by simp) (fun x hx => by rw [HSl.out x hx]; omega) w3 HSp.out HU.out
    go_wp2_with fail
    refine hre.mono ?_
    rintro e w4 ⟨v9, L, rfl, hr9, hisr, hLk, hLT, hb4⟩
    clear hre
    obtain ⟨l9, c9, rfl⟩ := hr9.form
    have hp4 := HSp.out.keep hb4
    have hss := ssums_any B0 p b T hT w4 hp4
    have hssq := fun W h => ssums_any B0 p2 b2 T hT W h
    have HAL : Hid ((sortB (keysE T)).length = T.length) := Lib.hid (by rw [(sortB_perm _).length_eq]; simp [keysE])
    go_wp2_with fail
    refine hss.mono ?_
    rintro e w5 ⟨v10, rfl, hr10, hb5⟩
    clear hss
    generalize sortB (keysE T) = A at *
    obtain ⟨l10, c10, rfl⟩ := hr10.form
    have hp5 := hp4.keep hb5
    have hq5 := (HSq.out.keep hb4).keep hb5
    have hu5 := (HU.out.keep hb4).keep hb5
    have hw5 : Below w.heap.size w w5 := (HW.out.trans (hb4.mono HW.out.size)).trans (hb5.mono (HW.out.trans (hb4.mono HW.out.size)).size)
    have hk5 := skeep_any B0 (b + 1) p b T HSH.out hT (.slice none 0 0) ([] : List Bs) (by simp) (fun x hx => by rw [HSl.out x hx]; omega) HKL.out w5 hp5 hu5
    have h95 := hr9.keep hb5
    clear hr9 hp4
    go_wp2_with fail
    refine hk5.mono ?_
    rintro e w6 ⟨I, hI, rfl, hp6, hg6⟩
    clear hk5
    have hne : b ≠ b2 := by omega
    have hpb := hp5.blt
    have hpb0 := HSp.out.blt
    have hq6 := hq5.turned hg6 hp5.map hne.symm
    have h96 := h95.past hg6 (by omega)
    have h106 := hr10.past hg6 (by have := hb4.size; omega)
    have hu6 := hu5.past hg6 (by omega)
    have hw6 := hw5.trans (grown_below hg6 hw5.size (fun k hk => by injection hk with hk; omega))
    have hlen := keep_len HND.out hI hisr
    have e1 : ((T.length - (keepT T I).length : Nat) : Int) = (A.length : Int) - (L.length : Int) := by have := HAL.out; omega
    have wm : wrap64 ((A.length : Int) - (L.length : Int)) = (A.length : Int) - (L.length : Int) := by have := HAL.out; unfold wrap64; omega
    rw [e1]
    have hss2 := ssums_any B0 p b (keepT T I) (by omega) w6 hp6
    rw [keep_sorted HND.out hI hisr] at hss2
    have HT1 : Hid (∀ x ∈ L, (decide (x ∈ keysE (keepT T I)) = true) ∧ getT (keepT T I) x = getT T x) := Lib.hid (fun x hx => ⟨decide_eq_true (keep_keys.2 ⟨hLk x hx, (hI x).2 ((hisr.2 x).1 hx)⟩), get_keep ((hI x).2 ((hisr.2 x).1 hx))⟩)
    have HJ : Hid (∀ J, (∀ s, s ∈ J ↔ Rch (keepT T I) ([] : List Bs) s) → keepT (keepT T I) J = keepT T I) := Lib.hid (fun J hJ => keep_again hI hJ)
    have HR1 : Hid (∀ L', IsR (keepT T I) ([] : List Bs) L' → L' = L) := Lib.hid (fun L' h => (IsR.keep hI h).uniq hisr)
    have HSH1 : Hid (ShortE (keepT T I)) := Lib.hid (ShortE.keep HSH.out)
    have HKL1 : Hid (∀ x ∈ keysE (keepT T I), x.length ≤ maxLen) := Lib.hid (fun x hx => HKL.out x (keep_keys.1 hx).1)
    have HLK := Lib.hid hLk
    have hLb : L.length ≤ 1000 := by omega
    have HP6 := Lib.hid hp6
    have HQ6 := Lib.hid hq6
    have H96 := Lib.hid h96
    have H106 := Lib.hid h106
    have HU6 := Lib.hid hu6
    have hT1 : (keepT T I).length ≤ 1000 := by omega
    clear e1 hlen hg6 hu5 hq5 hp5 h95 hr10 hisr hI hLk hb4 hb5 hw5 hp6 hq6 h96 h106 hu6 HAL hLT
    generalize keepT T I = T1 at *
    go_wp2_with fail
    refine hss2.mono ?_
    rintro e w7 ⟨v11, rfl, hr11, hb7⟩
    clear hss2
    obtain ⟨l11, c11, rfl⟩ := hr11.form
    have hst := sametexts_selfB _ _ L w7 hr11.ss (H96.out.keep hb7).ss
    go_wp2_with fail
    refine hst.mono ?_
    rintro e w8 ⟨rfl, hb8⟩
    have hb68 := hb7.trans (hb8.mono hb7.size)
    have hs3 := hssq w8 (HQ6.out.keep hb68)
    clear hst hr11 hb7 hb8 hssq
    go_wp2_with fail
    refine hs3.mono ?_
    rintro e w9 ⟨v12, rfl, hr12, hb9⟩
    have hb69 := hb68.trans (hb9.mono hb68.size)
    obtain ⟨l12, c12, rfl⟩ := hr12.form
    have hst := sametexts_selfB _ _ A w9 hr12.ss (H106.out.keep hb69).ss
    clear hs3 hb68 hb9
    go_wp2_with fail
    refine hst.mono ?_
    rintro e w10 ⟨rfl, hb10⟩
    have hb0 := hb69.trans (hb10.mono hb69.size)
    clear hst hr12 hb69 hb10
    go_wp2_with fail
    clear wm
    go_loopw [78] (fun s78 wr => ∃ (n : Nat), s78 = .int .i64 (n) ∧ n ≤ L.length ∧ Below w6.heap.size w6 wr) (fun s78 _ => L.length - (intOf s78).toNat)
    case atStart => exact ⟨0, rfl, Nat.zero_le _, hb0⟩
    case round =>
      obtain ⟨n, rfl, hn, hb⟩ := hrel
      clear hb0
      by_cases h1 : n < L.length
      · have d1 : decide ((n : Int) < (L.length : Int)) = true := by simp; omega
        have i0 : 0 ≤ (n : Int) ∧ (n : Int) < (L.length : Int) := by omega
        have hxm : L.getD n [] ∈ L := mem_at L n h1
        obtain ⟨hk1, hgt⟩ := HT1.out _ hxm
        have hxk := HLK.out _ hxm
        have hxl : (L.getD n []).length ≤ maxLen := HKL.out _ hxk
        obtain ⟨t, ht⟩ := mem_keys.1 hxk
        have hga := sget_any B0 p2 b2 T (L.getD n []) hxl _ (HQ6.out.keep hb)
        have hgb := fun W h => sget_any B0 p b T1 (L.getD n []) hxl W h
        rw [hk1, hgt, get_of HND.out ht, Option.getD_some] at hgb
        rw [get_of HND.out ht, Option.getD_some] at hga
        obtain ⟨g9, o9, rfl, c0⟩ := (H96.out.keep hb).ss.at n h1
        clear hxm hk1 hgt hxk ht
        generalize L.getD n [] = x at *
        go_wp2_with fail
        refine hga.mono ?_
        rintro e w11 ⟨rfl, hb11⟩
        have hb2 := hb.trans (hb11.mono hb.size)
        have hgb2 := hgb w11 (HP6.out.keep hb2)
        clear hga hgb hb11 c0
        go_wp2_with fail
        refine hgb2.mono ?_
        rintro e w12 ⟨rfl, hb12⟩
        go_wp2_with fail
        exact ⟨⟨n + 1, rfl, by omega, hb2.trans (hb12.mono hb2.size)⟩, by simp [intOf]; omega⟩
      · have e : n = L.length := by omega
        subst e
        have d1 : decide ((L.length : Int) < (L.length : Int)) = false := by simp
        have hpr := HP6.out.keep hb
        have hk2 := skeep_any B0 (b + 1) p b T1 HSH1.out hT1 (.slice none 0 0) ([] : List Bs) (by simp) (fun x hx => by rw [HSl.out x hx]; omega) HKL1.out _ hpr (HU6.out.keep hb)
        go_wp2_with fail
        refine hk2.mono ?_
        rintro e w13 ⟨J, hJ, rfl, hp13, hg13⟩
        rw [HJ.out J hJ] at hp13 ⊢
        rw [Nat.sub_self]
        have hbs := hb.size
        have hpb6 := HP6.out.blt
        have hpl := hpr.blt
        have hu13 := (HU6.out.keep hb).past hg13 (by omega)
        have h913 := (H96.out.keep hb).past hg13 (by omega)
        have hw13 := (hw6.trans (hb.mono hw6.size)).trans (grown_below hg13 (hw6.trans (hb.mono hw6.size)).size (fun k hk => by injection hk with hk; omega))
        have hre := sreach_any B0 (b + 1) p b T1 HSH1.out hT1 (.slice none 0 0) ([] : List Bs) (by simp) (fun x hx => by rw [HSl.out x hx]; omega) w13 hp13 hu13
        clear hk2 hJ hg13 d1
        go_wp2_with fail
        refine hre.mono ?_
        rintro e w14 ⟨v14, L2, rfl, hr14, hisr, _, _, hb14⟩
        obtain rfl := HR1.out L2 hisr
        obtain ⟨l14, c14, rfl⟩ := hr14.form
        have hst := sametexts_selfB _ _ L2 w14 hr14.ss (h913.keep hb14).ss
        clear hre
        go_wp2_with fail
        refine hst.mono ?_
        rintro e w15 ⟨rfl, hb15⟩
        have hw14 := hw13.trans (hb14.mono hw13.size)
        go_wp2_with fail
        go_ret
        exact ⟨rfl, hw14.trans (hb15.mono hw14.size)⟩
end Go.Proofs.YtbnjhfkmdejeaaaDoor
