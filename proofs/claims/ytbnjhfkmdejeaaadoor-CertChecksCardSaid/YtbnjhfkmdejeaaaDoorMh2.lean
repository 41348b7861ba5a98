/- RefC, CCodes. -/
import Derived.Test.YtbnjhfkmdejeaaaDoorMg17
import Derived.Test.YtbnjhfkmdejeaaaDoorMh1
set_option linter.unnecessarySimpa false

/- Whether a certificate is good, and the certificate of all who signed: the document's. -/
set_option linter.unusedSimpArgs false
set_option linter.unusedVariables false
namespace Go.Proofs.YtbnjhfkmdejeaaaDoor
open Go.RowKit Pl

theorem names_take (l : List (Bs × Int)) (i : Nat) (hi : i < l.length) : (l.take (i + 1)).map (·.1) = (l.take i).map (·.1) ++ [(l.getD i ([], 0)).1] := by
  rw [take_getD l i hi, List.map_append]
  rfl
theorem names_has {l : List (Bs × Int)} (hc : chkM l = true) (n : Bs) : (l.map (·.1)).contains n = decide (ofM l [n] ≠ 0) := by
  rw [Bool.eq_iff_iff, List.contains_iff_mem, decide_eq_true_iff, of_one hc, List.mem_map]

set_option maxRecDepth 100000 in
set_option maxHeartbeats 2000000 in
theorem rcheck7_any (tag : Int) (v cv lv : Value) (l : List (Bs × Int)) (d : Bs) (ns : List Bs) (base : Nat) (M : List Sg) (hM : M.length ≤ 1000000) (hso : SortedS M) (w : World) (hv : MS w v l) (hc : CV w cv d ns) (hG : GRow w base lv M) (hdl : d.length ≤ maxLen) :
    Calls Tryd.prog 17 #[.int .i64 (tag), v, cv, lv] w fun e w' => e = .returned (.int .i64 (goodC tag l d ns M)) ∧ Below w.heap.size w w' := by
  generalize hr : goodC tag l d ns M = r
  have HR := Lib.hid hr
  clear hr
  obtain ⟨a, c, rfl⟩ := hv.form
  obtain ⟨u, rfl, hu⟩ := hc
  obtain ⟨a2, c2, rfl⟩ := hu.form
  have hb0 : Below w.heap.size w (w.alloc (.cells #[.string ⟨List.toArray (d)⟩, .slice a2 ns.length c2] 28)) := Below.allocS (Below.refl _ _) _
  have B0 : Blk (w.alloc (.cells #[.string ⟨List.toArray (d)⟩, .slice a2 ns.length c2] 28)) w.heap.size #[.string ⟨List.toArray (d)⟩, .slice a2 ns.length c2] := Blk.new _ _ _
  have HV := Lib.hid hv
  have HU := Lib.hid hu
  have HG := Lib.hid hG
  have HSO := Lib.hid hso
  have hlm := hv.small
  have hln := hu.small
  have hdl' : d.length ≤ 9223372036854775807 := by unfold maxLen at hdl; omega
  clear hv hu hG hso hdl
  have htg := rtag_any tag
  go_enter Tryd.func17, Tryd.ntmps17
  go_wp2_with fail
  refine (htg _).mono ?_
  rintro e w1 ⟨rfl, hb⟩
  have hb1 := hb0.trans (hb.mono hb0.size)
  have B1 := B0.keep hb
  clear htg hb hb0 B0
  cases ht : tagC tag
  · have HZ : Hid (1 = r) := Lib.hid (by rw [← HR.out]; simp [goodC, firstC, ht])
    clear HR ht
    go_wp2_with fail
    all_goals (go_ret; exact ⟨by rw [← HZ.out]; rfl, hb1⟩)
  have hchk := rmcheck_any _ l _ (HV.out.keep hb1)
  cases hcm : chkM l
  · have HZ : Hid (50 = r) := Lib.hid (by rw [← HR.out]; simp [goodC, firstC, ht, hcm])
    rw [hcm] at hchk
    clear HR ht hcm
    go_wp2_with fail
    refine hchk.mono ?_
    rintro e w2 ⟨rfl, nd, rfl⟩
    unfold setI
    go_wp2_with fail
    all_goals (go_ret; exact ⟨by rw [← HZ.out]; rfl, below_drewN hb1 nd⟩)
  rw [hcm] at hchk
  go_wp2_with fail
  refine hchk.mono ?_
  rintro e w2 ⟨rfl, nd, rfl⟩
  unfold setI
  have hb2 := below_drewN hb1 nd
  have B2 := B1.drewN nd
  clear hb1 B1 hchk
  obtain ⟨w2, hw2⟩ : ∃ w2, w2 = w1.drewN nd := ⟨_, rfl⟩
  rw [← hw2] at hb2 B2 ⊢
  clear hw2
  obtain ⟨b1, b2, b3⟩ := id B2
  have hmay := rmay_any _ d ns w2 ⟨_, rfl, HU.out.keep hb2⟩
  cases hfi : mayC d ns
  · have HZ : Hid (3 = r) := Lib.hid (by rw [← HR.out]; simp [goodC, firstC, ht, hcm, hfi])
    rw [hfi] at hmay
    clear HR ht hcm hfi
    go_wp2_with fail
    refine hmay.mono ?_
    rintro e w3 ⟨rfl, hb⟩
    go_wp2_with fail
    all_goals (go_ret; exact ⟨by rw [← HZ.out]; rfl, hb2.trans (hb.mono hb2.size)⟩)
  have HR2 : Hid (goodIn l (tagP tag.toNat d) ns M = r) := Lib.hid (by rw [← HR.out, goodC_in (by simp [firstC, ht, hcm, hfi])])
  obtain ⟨p1, p2, _, p3⟩ := mayC_parts hfi
  have hmk : markP tag d = (tagP tag.toNat d, 0) := by simp [markP, ht, p1]
  rw [hfi] at hmay
  clear HR ht hfi
  have HCM := Lib.hid hcm
  have HMK := Lib.hid hmk
  have HP := Lib.hid p3
  have HD := Lib.hid p1
  simp only [chkM, Bool.and_eq_true, decide_eq_true_eq] at hcm
  have h7 := hcm.1.2
  clear hcm hmk p3 p1
  go_wp2_with fail
  refine hmay.mono ?_
  rintro e w3 ⟨rfl, hb⟩
  have hb3 := hb2.trans (hb.mono hb2.size)
  have B3 := B2.keep hb
  clear hmay hb hb2 B2 b1 b2 b3
  go_wp2_with fail
  have hq3 : w.heap.size < w3.heap.size := B3.lt
  go_loopw [9, 10] (fun s9 s10 wr => ∃ i : Nat, i ≤ l.length ∧ s10 = .int .i64 i ∧ SRow wr w3.heap.size s9 ((l.take i).map (·.1)) ∧ Below w3.heap.size w3 wr) (fun _ s10 _ => l.length - (intOf s10).toNat)
  case atStart => exact ⟨0, by omega, rfl, by simpa using SRow.nil _ _, Below.refl _ _⟩
  case round =>
    obtain ⟨i, hi, rfl, hS, hbq⟩ := hrel
    obtain ⟨wq, h⟩ := Below.nm hbq
    subst h
    have hb5 := hb3.trans (hbq.mono hb3.size)
    have hqs := hbq.size
    obtain ⟨va, vc, rfl⟩ := hS.form
    rw [show ((l.take i).map (·.1)).length = i from by simp; omega] at *
    by_cases hlt : i < l.length
    · obtain ⟨g, off, rfl, hg, c1, c2⟩ := (HV.out.keep hb5).at i hlt
      have hnx := names_take l i hlt
      generalize hx : l.getD i ([], 0) = x at *
      obtain ⟨n, z⟩ := x
      simp only at c1 c2 hnx
      have HNX := Lib.hid hnx
      clear hx hnx
      have hln2 : ((l.take i).map (·.1)).length = i := by simp; omega
      generalize (l.take i).map (·.1) = nl at *
      subst hln2
      have hi0 : 0 ≤ (nl.length : Int) ∧ (nl.length : Int) < (l.length : Int) := by omega
      have d1 : decide ((nl.length : Int) < (l.length : Int)) = true := by simp; omega
      go_wp2_with (first
        | (at_builtin; refine wpList_appS rfl (.tmp 30) (.tmp 36) rfl w3.heap.size _ nl rfl (hS.alloc _) wq.heap.size 0 1 1 [n] rfl rfl (ssrc1 _ _ _) (by simp; omega) (by simp; omega) ?_; rintro v8 w8 hS8 hb8)
        | fail)
      have hbq8 : Below w3.heap.size w3 w8 := (Below.allocS hbq (.cells #[.string ⟨List.toArray (n)⟩] 9)).trans hb8
      exact ⟨⟨nl.length + 1, by omega, by go_num, by rw [HNX.out]; exact hS8, hbq8⟩, by simp [intOf]; omega⟩
    · obtain rfl : i = l.length := by omega
      have d1 : decide ((l.length : Int) < (l.length : Int)) = false := by simp
      rw [List.take_length] at hS
      have hnames := hS.ss
      have B5 := B3.keep hbq
      obtain ⟨b1, b2, b3⟩ := id B5
      have HN := Lib.hid hnames
      clear hS hnames
      go_wp2_with fail
      go_loopw [11] (fun s11 wr => ∃ i : Nat, i ≤ ns.length ∧ s11 = .int .i64 i ∧ Hid (chkA l ns = chkA l (ns.drop i)) ∧ wr = wq) (fun s11 _ => ns.length - (intOf s11).toNat)
      case atStart => exact ⟨0, by omega, rfl, Lib.hid rfl, rfl⟩
      case round =>
        obtain ⟨i, hi, rfl, HA, rfl⟩ := hrel
        by_cases hlt2 : i < ns.length
        · obtain ⟨g, off, rfl, c1⟩ := (HU.out.keep hb5).at i hlt2
          have hA := HA.out
          rw [chkA_drop l ns i hlt2] at hA
          have hi0 : 0 ≤ (i : Int) ∧ (i : Int) < (ns.length : Int) := by omega
          have d2 : decide ((i : Int) < (ns.length : Int)) = true := by simp; omega
          generalize ns.getD i [] = x at *
          have hha := rhas_any _ _ x _ HN.out
          rw [names_has HCM.out x] at hha
          clear HA
          have HAA := Lib.hid hA
          clear hA
          by_cases ho : ofM l [x] = 0
          · have HZ : Hid (5 = r) := Lib.hid (by rw [← HR2.out, goodIn, HAA.out]; simp [ho])
            rw [show decide (ofM l [x] ≠ 0) = false from by simp [ho]] at hha
            clear HAA HR2 ho
            go_wp2_with fail
            refine hha.mono ?_
            rintro e w4 ⟨rfl, rfl⟩
            go_wp2_with fail
            all_goals (go_ret; exact ⟨by rw [← HZ.out]; rfl, hb5⟩)
          · have HB : Hid (chkA l ns = chkA l (ns.drop (i + 1))) := Lib.hid (by rw [HAA.out]; simp [ho])
            rw [show decide (ofM l [x] ≠ 0) = true from by simp [ho]] at hha
            clear HAA ho
            go_wp2_with fail
            refine hha.mono ?_
            rintro e w4 ⟨rfl, rfl⟩
            go_wp2_with fail
            exact ⟨⟨i + 1, by omega, by go_num, HB, trivial⟩, by simp [intOf]; omega⟩
        · obtain rfl : i = ns.length := by omega
          have d2 : decide ((ns.length : Int) < (ns.length : Int)) = false := by simp
          have hA : chkA l ns = true := by rw [HA.out]; simp [chkA]
          have HR3 : Hid ((if chkB M (tagP tag.toNat d) ns = false then 70 else if ofM l ns < quoM l then 71 else 0) = r) := Lib.hid (by rw [← HR2.out, goodIn, hA]; simp)
          clear HR2 HA hA
          go_wp2_with fail
          refine (rmark_any tag d hdl' _).mono ?_
          rintro e w4 ⟨rfl, hb⟩
          rw [HMK.out]
          have hb6 := hb5.trans (hb.mono hb5.size)
          have B6 := B5.keep hb
          clear hb HN hbq hb5 B5 b1 b2 b3
          generalize tagP tag.toNat d = m at *
          obtain ⟨b1, b2, b3⟩ := id B6
          go_wp2_with fail
          go_loopw [14] (fun s14 wr => ∃ i : Nat, i ≤ ns.length ∧ s14 = .int .i64 i ∧ Hid (chkB M m ns = chkB M m (ns.drop i)) ∧ wr = w4) (fun s14 _ => ns.length - (intOf s14).toNat)
          case atStart => exact ⟨0, by omega, rfl, Lib.hid rfl, rfl⟩
          case round =>
            obtain ⟨i, hi, rfl, HA, rfl⟩ := hrel
            by_cases hlt3 : i < ns.length
            · obtain ⟨g, off, rfl, c1⟩ := (HU.out.keep hb6).at i hlt3
              have hA := HA.out
              rw [chkB_drop M m ns i hlt3] at hA
              have hi0 : 0 ≤ (i : Int) ∧ (i : Int) < (ns.length : Int) := by omega
              have d3 : decide ((i : Int) < (ns.length : Int)) = true := by simp; omega
              generalize ns.getD i [] = x at *
              have hsg := rsigned_any base lv M HSO.out x m hM _ (HG.out.keep hb6)
              clear HA
              have HAA := Lib.hid hA
              clear hA
              cases hq : isIn M x m
              · have HZ : Hid (70 = r) := Lib.hid (by rw [← HR3.out, HAA.out]; simp [hq])
                rw [hq] at hsg
                clear HAA HR3 hq
                go_wp2_with fail
                refine hsg.mono ?_
                rintro e w7 ⟨rfl, rfl⟩
                go_wp2_with fail
                all_goals (go_ret; exact ⟨by rw [← HZ.out]; rfl, hb6⟩)
              · have HB : Hid (chkB M m ns = chkB M m (ns.drop (i + 1))) := Lib.hid (by rw [HAA.out]; simp [hq])
                rw [hq] at hsg
                clear HAA hq
                go_wp2_with fail
                refine hsg.mono ?_
                rintro e w7 ⟨rfl, rfl⟩
                go_wp2_with fail
                exact ⟨⟨i + 1, by omega, by go_num, HB, trivial⟩, by simp [intOf]; omega⟩
            · obtain rfl : i = ns.length := by omega
              have d3 : decide ((ns.length : Int) < (ns.length : Int)) = false := by simp
              have hA : chkB M m ns = true := by rw [HA.out]; simp [chkB]
              have HR4 : Hid ((if ofM l ns < quoM l then 71 else 0) = r) := Lib.hid (by rw [← HR3.out, hA]; simp)
              clear HR3 HA hA
              have hof := rof_any _ _ l ns _ (HV.out.keep hb6) (HU.out.keep hb6)
              have htt := fun W h => rtotal_any (.slice a l.length c) l W h
              obtain ⟨o1, o2⟩ := of_bound ns HCM.out
              obtain ⟨t1, t2⟩ := totM_bound l
              have hqu := quo_of HCM.out
              generalize quoM l = y at *
              generalize ofM l ns = x at *
              generalize totM l = t at *
              have hw1 : IntKind.i64.wrap (3 * x) = 3 * x := by rw [IntKind.wrap_i64]; omega
              have hw2 : IntKind.i64.wrap (2 * t) = 2 * t := by rw [IntKind.wrap_i64]; omega
              by_cases hxy : x < y
              · have HZ : Hid (71 = r) := Lib.hid (by rw [← HR4.out, if_pos hxy])
                have hd : decide (IntKind.i64.wrap (3 * x) ≤ IntKind.i64.wrap (2 * t)) = true := by rw [hw1, hw2]; simp; omega
                go_wp2_with fail
                refine hof.mono ?_
                rintro e w7 ⟨rfl, hb⟩
                have hb7 := hb6.trans (hb.mono hb6.size)
                go_wp2_with fail
                refine (htt _ (HV.out.keep hb7)).mono ?_
                rintro e w8 ⟨rfl, hb8⟩
                go_wp2_with fail
                all_goals (go_ret; exact ⟨by rw [← HZ.out]; rfl, hb7.trans (hb8.mono hb7.size)⟩)
              · have HZ : Hid (0 = r) := Lib.hid (by rw [← HR4.out, if_neg hxy])
                have hd : decide (IntKind.i64.wrap (3 * x) ≤ IntKind.i64.wrap (2 * t)) = false := by rw [hw1, hw2]; simp; omega
                go_wp2_with fail
                refine hof.mono ?_
                rintro e w7 ⟨rfl, hb⟩
                have hb7 := hb6.trans (hb.mono hb6.size)
                go_wp2_with fail
                refine (htt _ (HV.out.keep hb7)).mono ?_
                rintro e w8 ⟨rfl, hb8⟩
                go_wp2_with fail
                all_goals (go_ret; exact ⟨by rw [← HZ.out]; rfl, hb7.trans (hb8.mono hb7.size)⟩)
theorem good_sel {tag : Int} {l : List (Bs × Int)} {s : Bs} {M : List Sg} (ht : tagC tag = true) (hc : chkM l = true) (hd : s.length = 32) :
    goodC tag l s (selN M (tagP tag.toNat s) l) M = if ofM l (selN M (tagP tag.toNat s) l) < quoM l then 71 else 0 := by
  have hm := may_sel hc hd M (tagP tag.toNat s)
  rw [goodC_in (by rw [hm]; exact first_true ht hc)]
  unfold goodIn
  have hA : chkA l (selN M (tagP tag.toNat s) l) = true := by
    unfold chkA
    rw [List.all_eq_true]
    intro n hn
    obtain ⟨_, h6⟩ := (sel_mem M _ l n).1 hn
    rw [decide_eq_true_iff]
    exact (of_one hc n).2 h6
  have hB : chkB M (tagP tag.toNat s) (selN M (tagP tag.toNat s) l) = true := by
    unfold chkB
    rw [List.all_eq_true]
    intro n hn
    exact ((sel_mem M _ l n).1 hn).1
  rw [hA, hB]
  simp
set_option maxRecDepth 100000 in
set_option maxHeartbeats 2000000 in
theorem rgather7_any (tag : Int) (v lv : Value) (l : List (Bs × Int)) (s : Bs) (base : Nat) (M : List Sg) (hM : M.length ≤ 1000000) (hso : SortedS M) (hsl : s.length ≤ maxLen) (w : World) (hv : MS w v l) (hG : GRow w base lv M) :
    Calls Tryd.prog 19 #[.int .i64 (tag), v, .string ⟨List.toArray (s)⟩, lv] w fun e w' => ∃ u, e = .returned (.tuple #[.agg #[.string ⟨List.toArray ((gathC tag l s M).1.1)⟩, u], .int .i64 ((gathC tag l s M).2)]) ∧ SRow w' w.heap.size u (gathC tag l s M).1.2 ∧ Below w.heap.size w w' := by
  generalize hr : gathC tag l s M = r
  have HR := Lib.hid hr
  clear hr
  obtain ⟨a, c, rfl⟩ := hv.form
  have hb0 : Below w.heap.size w (w.alloc (.cells #[.string ⟨List.toArray ([])⟩, .slice none 0 0] 28)) := Below.allocS (Below.refl _ _) _
  have B0 : Blk (w.alloc (.cells #[.string ⟨List.toArray ([])⟩, .slice none 0 0] 28)) w.heap.size #[.string ⟨List.toArray ([])⟩, .slice none 0 0] := Blk.new _ _ _
  have HV := Lib.hid hv
  have HG := Lib.hid hG
  have HSO := Lib.hid hso
  have hlm := hv.small
  have hsl' : s.length ≤ 9223372036854775807 := by unfold maxLen at hsl; omega
  have HSL := Lib.hid hsl
  clear hv hG hso hsl
  have htg := rtag_any tag
  go_enter Tryd.func19, Tryd.ntmps19
  go_wp2_with fail
  refine (htg _).mono ?_
  rintro e w1 ⟨rfl, hb⟩
  have hb1 := hb0.trans (hb.mono hb0.size)
  have B1 := B0.keep hb
  clear htg hb hb0 B0
  obtain ⟨b1, b2, b3⟩ := id B1
  cases ht : tagC tag
  · have HZ : Hid ((([], []), (1 : Int)) = r) := Lib.hid (by rw [← HR.out]; simp [gathC, firstC, ht])
    clear HR ht
    go_wp2_with fail
    refine bodyPost_ret (results_ct rfl _ _ _ _ rfl (rowC_load (x := .string ⟨List.toArray ([])⟩) (y := .slice none 0 0) ((B1.set 0 _).set 1 _))) rfl ?_
    refine ⟨.slice none 0 0, by rw [← HZ.out]; rfl, by rw [← HZ.out]; exact SRow.nil _ _, ?_⟩
    (repeat (first | exact Below.refl _ _ | assumption | apply Below.drew | apply below_drewN | apply Below.allocS | (refine Below.setCell ?_ (by simp <;> omega) _) | (refine Below.alloc ?_ (by simp <;> omega) _) | (refine Below.trans ?_ (Below.mono (by assumption) (by simp <;> omega)))))
  have hchk := rmcheck_any _ l _ (HV.out.keep hb1)
  cases hcm : chkM l
  · have HZ : Hid ((([], []), (50 : Int)) = r) := Lib.hid (by rw [← HR.out]; simp [gathC, firstC, ht, hcm])
    rw [hcm] at hchk
    clear HR ht hcm
    go_wp2_with fail
    refine hchk.mono ?_
    rintro e w2 ⟨rfl, nd, rfl⟩
    unfold setI
    have hb2 := below_drewN hb1 nd
    have B2 := B1.drewN nd
    clear b1 b2 b3
    obtain ⟨b1, b2, b3⟩ := id B2
    go_wp2_with fail
    refine bodyPost_ret (results_ct rfl _ _ _ _ rfl (rowC_load (x := .string ⟨List.toArray ([])⟩) (y := .slice none 0 0) ((B2.set 0 _).set 1 _))) rfl ?_
    refine ⟨.slice none 0 0, by rw [← HZ.out]; rfl, by rw [← HZ.out]; exact SRow.nil _ _, ?_⟩
    (repeat (first | exact Below.refl _ _ | assumption | apply Below.drew | apply below_drewN | apply Below.allocS | (refine Below.setCell ?_ (by simp <;> omega) _) | (refine Below.alloc ?_ (by simp <;> omega) _) | (refine Below.trans ?_ (Below.mono (by assumption) (by simp <;> omega)))))
  rw [hcm] at hchk
  go_wp2_with fail
  refine hchk.mono ?_
  rintro e w2 ⟨rfl, nd, rfl⟩
  unfold setI
  have hb2 := below_drewN hb1 nd
  have B2 := B1.drewN nd
  clear hb1 B1 hchk b1 b2 b3
  obtain ⟨w2, hw2⟩ : ∃ w2, w2 = w1.drewN nd := ⟨_, rfl⟩
  rw [← hw2] at hb2 B2 ⊢
  clear hw2
  obtain ⟨b1, b2, b3⟩ := id B2
  by_cases h32 : s.length = 32
  case neg =>
    have HZ : Hid ((([], []), (3 : Int)) = r) := Lib.hid (by rw [← HR.out]; simp [gathC, firstC, ht, hcm, h32])
    have e1 : ((s.length : Int) != 32) = true := by simp; omega
    clear HR ht hcm
    go_wp2_with fail
    refine bodyPost_ret (results_ct rfl _ _ _ _ rfl (rowC_load (x := .string ⟨List.toArray ([])⟩) (y := .slice none 0 0) ((B2.set 0 _).set 1 _))) rfl ?_
    refine ⟨.slice none 0 0, by rw [← HZ.out]; rfl, by rw [← HZ.out]; exact SRow.nil _ _, ?_⟩
    (repeat (first | exact Below.refl _ _ | assumption | apply Below.drew | apply below_drewN | apply Below.allocS | (refine Below.setCell ?_ (by simp <;> omega) _) | (refine Below.alloc ?_ (by simp <;> omega) _) | (refine Below.trans ?_ (Below.mono (by assumption) (by simp <;> omega)))))
  have e1 : ((s.length : Int) != 32) = false := by simp; omega
  have HR2 : Hid (gathIn l s (tagP tag.toNat s) M = r) := Lib.hid (by rw [← HR.out, gathC_in (by simp [firstC, ht, hcm, h32])])
  have hgs := @good_sel tag l s M ht hcm h32
  have hmk : markP tag s = (tagP tag.toNat s, 0) := by simp [markP, ht, h32]
  have HMK := Lib.hid hmk
  have HGS := Lib.hid hgs
  simp only [chkM, Bool.and_eq_true, decide_eq_true_eq] at hcm
  have h7 := hcm.1.2
  have HO := Lib.hid (okM_at l [] hcm.2)
  clear hcm hmk hgs ht HR h32
  go_wp2_with fail
  refine (rmark_any tag s hsl' _).mono ?_
  rintro e w4 ⟨rfl, hb⟩
  rw [HMK.out]
  have hb4 := hb2.trans (hb.mono hb2.size)
  have B4 := B2.keep hb
  clear hb hb2 B2 b1 b2 b3 HMK
  generalize tagP tag.toNat s = m at *
  have hq4 : w.heap.size < w4.heap.size := B4.lt
  go_wp2_with fail
  go_loopw [13] (fun s13 wr => ∃ (i : Nat) (u : Value), i ≤ l.length ∧ s13 = .int .i64 i ∧ Blk wr w4.heap.size #[.string ⟨List.toArray (s)⟩, u] ∧ SRow wr (w4.heap.size + 1) u (selN M m (l.take i)) ∧ Below w4.heap.size w4 wr) (fun s13 _ => l.length - (intOf s13).toNat)
  case atStart => exact ⟨0, .slice none 0 0, by omega, rfl, Blk.new _ _ _, by simpa [selN] using SRow.nil _ _, Below.allocS (Below.refl _ _) _⟩
  case round =>
    obtain ⟨i, u, hi, rfl, C, hS, hbq⟩ := hrel
    obtain ⟨wq, h⟩ := Below.nm hbq
    subst h
    have hb5 := hb4.trans (hbq.mono hb4.size)
    have hqs := hbq.size
    have hql := C.lt
    by_cases hlt : i < l.length
    · obtain ⟨g, off, rfl, hg, c1, c2⟩ := HV.out.at i hlt
      have hnx := selN_take M m l i hlt
      have hsl := selN_len M m (l.take i)
      rw [List.length_take] at hsl
      have hi0 : 0 ≤ (i : Int) ∧ (i : Int) < (l.length : Int) := by omega
      have d1 : decide ((i : Int) < (l.length : Int)) = true := by simp; omega
      generalize hx : l.getD i ([], 0) = x at *
      obtain ⟨n, z⟩ := x
      simp only at c1 c2 hnx
      have cq := (hb5.cell (p := ⟨g, off + i * 2, none⟩) hg).trans c1
      replace c1 : ∀ w', Below w.heap.size w w' → w'.cell? ⟨g, off + i * 2, none⟩ = some (.string ⟨List.toArray (n)⟩) := fun w' h => (h.cell (p := ⟨g, off + i * 2, none⟩) hg).trans c1
      have HNX := Lib.hid hnx
      clear hx hnx
      generalize selN M m (l.take i) = ns at *
      have hsg := rsigned_any base lv M HSO.out n m hM _ (HG.out.keep hb5)
      cases hq : isIn M n m
      · have HN2 : Hid (selN M m (l.take (i + 1)) = ns) := Lib.hid (by rw [HNX.out, hq]; simp)
        rw [hq] at hsg
        clear HNX hq
        go_wp2_with fail
        refine hsg.mono ?_
        rintro e w7 ⟨rfl, rfl⟩
        go_wp2_with fail
        exact ⟨⟨i + 1, u, by omega, by go_num, C, by rw [HN2.out]; exact hS, hbq⟩, by simp [intOf]; omega⟩
      · have HN2 : Hid (selN M m (l.take (i + 1)) = ns ++ [n]) := Lib.hid (by rw [HNX.out, hq]; simp)
        rw [hq] at hsg
        obtain ⟨ua, uc, rfl⟩ := hS.form
        clear HNX hq
        go_wp2_with fail
        refine hsg.mono ?_
        rintro e w7 ⟨rfl, rfl⟩
        go_wp2_with fail
        have hR := hS
        have C2 := C.alloc (.cells #[.string ⟨List.toArray (n)⟩] 9)
        obtain ⟨x1, x2, x3⟩ := id C
        obtain ⟨y1, y2, y3⟩ := id C2
        clear hS
        refine wpH_startB (w4.heap.size) (by kernel_rfl) (fun hS => ?_)
        (refine wpH_pure 0 ?_ (oi := { dst := some 48, op := Op.fieldAddr 28 (Operand.tmp 12) 1, type := 0, pos := "ref.go:98", after := #[], guard := none }) rfl (by kernel_rfl) (by kernel_rfl) (by kernel_rfl) (by rfl) hS (fun _ _ _ h => h) ?_ ?_; rotate_left; focus (intro w; go_simp; try with_reducible rfl))
        try simp only [Act.put, List.setIfInBounds_toArray, List.set_cons_zero, List.set_cons_succ]
        (refine wpH_pure 2 ?_ (oi := { dst := some 50, op := Op.move (Operand.tmp 1), type := 22, pos := "ref.go:98", after := #[], guard := none }) rfl (by kernel_rfl) (by kernel_rfl) (by kernel_rfl) (by rfl) hS (fun _ _ _ h => h) ?_ ?_; rotate_left; focus (intro w; go_simp; try with_reducible rfl))
        try simp only [Act.put, List.setIfInBounds_toArray, List.set_cons_zero, List.set_cons_succ]
        (refine wpH_pure 3 ?_ (oi := { dst := some 51, op := Op.move (Operand.tmp 13), type := 3, pos := "ref.go:98", after := #[], guard := none }) rfl (by kernel_rfl) (by kernel_rfl) (by kernel_rfl) (by rfl) hS (fun _ _ _ h => h) ?_ ?_; rotate_left; focus (intro w; go_simp; try with_reducible rfl))
        try simp only [Act.put, List.setIfInBounds_toArray, List.set_cons_zero, List.set_cons_succ]
        (refine wpH_pure 4 ?_ (oi := { dst := some 52, op := Op.indexAddr 22 (Operand.tmp 50) (Operand.tmp 51), type := 0, pos := "ref.go:98", after := #[{ on := 2, ground := Ground.data }, { on := 3, ground := Ground.data }], guard := none }) rfl (by kernel_rfl) (by kernel_rfl) (by kernel_rfl) (by rfl) hS (fun _ _ _ h => h) ?_ ?_; rotate_left; focus (intro w; go_simp; try with_reducible rfl))
        try simp only [Act.put, List.setIfInBounds_toArray, List.set_cons_zero, List.set_cons_succ]
        (refine wpH_pure 5 ?_ (oi := { dst := some 53, op := Op.fieldAddr 77 (Operand.tmp 52) 0, type := 0, pos := "ref.go:98", after := #[{ on := 4, ground := Ground.data }], guard := none }) rfl (by kernel_rfl) (by kernel_rfl) (by kernel_rfl) (by rfl) hS (fun _ _ _ h => h) ?_ ?_; rotate_left; focus (intro w; go_simp; try with_reducible rfl))
        try simp only [Act.put, List.setIfInBounds_toArray, List.set_cons_zero, List.set_cons_succ]
        refine wpH_load 6 (.string ⟨List.toArray (n)⟩) (oi := { dst := some 54, op := Op.load 9 (Operand.tmp 53), type := 9, pos := "ref.go:98", after := #[{ on := 5, ground := Ground.data }], guard := none }) rfl (by kernel_rfl) (by kernel_rfl) (by kernel_rfl) (by rfl) hS (fun _ _ _ h => h) (fun w hb2 => (by have c := c1 w (hb5.trans (hb2.mono (by omega))); go_simp; try rfl)) ?_
        try simp only [Act.put, List.setIfInBounds_toArray, List.set_cons_zero, List.set_cons_succ]
        refine wpAnyH_all (rs := [1, 7]) (by kernel_rfl) (by simp) (fun jj hjj => ?_)
        simp only [List.mem_cons, List.not_mem_nil, or_false] at hjj
        rcases hjj with rfl | rfl
        refine wpO_op (oi := { dst := some 49, op := Op.load 26 (Operand.tmp 48), type := 26, pos := "ref.go:98", after := #[{ on := 0, ground := Ground.data }], guard := none }) rfl (by rfl) ?_
        refine wp_loads (.slice ua ns.length uc) (by go_simp; try rfl) ?_
        refine ⟨hS, ?_⟩
        try simp only [Act.put, List.setIfInBounds_toArray, List.set_cons_zero, List.set_cons_succ]
        refine wpH_op 7 (oi := { dst := some 55, op := Op.buildSlice 26 1 #[(0, Operand.tmp 54)], type := 26, pos := "ref.go:98", after := #[{ on := 6, ground := Ground.data }], guard := none }) rfl (by kernel_rfl) (by rfl) ?_
        unfold Oper.wp; go_simp
        refine hold_and ((Below.refl _ _).alloc (by omega) _).drew (fun hS => ?_)
        try simp only [Act.put, List.setIfInBounds_toArray, List.set_cons_zero, List.set_cons_succ]
        refine wpH_op 8 (oi := { dst := some 56, op := Op.call { callee := Callee.builtin Builtin.append, args := #[Operand.tmp 49, Operand.tmp 55], argTypes := #[26, 26] }, type := 26, pos := "ref.go:98", after := #[{ on := 1, ground := Ground.data }, { on := 7, ground := Ground.data }], guard := none }) rfl (by kernel_rfl) (by rfl) ?_
        refine wp_appS (.tmp 49) (.tmp 55) rfl (w4.heap.size + 1) _ ns rfl (by exact hR.alloc _) _ 0 1 1 [n] rfl rfl (by exact ssrc1 _ _ _) (by simp; omega) (by simp; omega) ?_
        rintro v8 w8 hS8 hb8
        obtain ⟨va8, vc8, rfl⟩ := hS8.form
        refine hold_and (hS.trans (hb8.mono (Nat.le_succ _))) (fun hS => ?_)
        have C8 : Blk w8 w4.heap.size _ := C2.of_block (hb8.block _ (Nat.lt_succ_self _)) hb8.size
        obtain ⟨z1, z2, z3⟩ := id C8
        try simp only [Act.put, List.setIfInBounds_toArray, List.set_cons_zero, List.set_cons_succ]
        (refine wpH_pure 9 ?_ (oi := { dst := some 57, op := Op.fieldAddr 28 (Operand.tmp 12) 1, type := 0, pos := "ref.go:98", after := #[{ on := 0, ground := Ground.phase }, { on := 1, ground := Ground.phase }, { on := 2, ground := Ground.phase }, { on := 3, ground := Ground.phase }, { on := 4, ground := Ground.phase }, { on := 5, ground := Ground.phase }, { on := 6, ground := Ground.phase }, { on := 7, ground := Ground.phase }, { on := 8, ground := Ground.phase }], guard := none }) rfl (by kernel_rfl) (by kernel_rfl) (by kernel_rfl) (by rfl) hS (fun _ _ _ h => h) ?_ ?_; rotate_left; focus (intro w; go_simp; try with_reducible rfl))
        try simp only [Act.put, List.setIfInBounds_toArray, List.set_cons_zero, List.set_cons_succ]
        refine wpH_op 10 (oi := { dst := none, op := Op.store 26 (Operand.tmp 57) (Operand.tmp 56), type := 0, pos := "ref.go:98", after := #[{ on := 9, ground := Ground.data }, { on := 8, ground := Ground.data }, { on := 8, ground := Ground.chain }, { on := 0, ground := Ground.phase }, { on := 1, ground := Ground.phase }, { on := 2, ground := Ground.phase }, { on := 3, ground := Ground.phase }, { on := 4, ground := Ground.phase }, { on := 5, ground := Ground.phase }, { on := 6, ground := Ground.phase }, { on := 7, ground := Ground.phase }, { on := 8, ground := Ground.phase }], guard := none }) rfl (by kernel_rfl) (by rfl) ?_
        unfold Oper.wp; go_simp
        refine hold_and (Below.setCell (p := ⟨w4.heap.size, 1, none⟩) hS (Nat.le_refl _) _) (fun hS => ?_)
        try simp only [Act.put, List.setIfInBounds_toArray, List.set_cons_zero, List.set_cons_succ]
        refine wpAnyH_done (by kernel_rfl) ?_ _
        rotate_left
        refine wpO_op (oi := { dst := some 55, op := Op.buildSlice 26 1 #[(0, Operand.tmp 54)], type := 26, pos := "ref.go:98", after := #[{ on := 6, ground := Ground.data }], guard := none }) rfl (by rfl) ?_
        unfold Oper.wp; go_simp
        refine hold_and ((Below.refl _ _).alloc (by omega) _).drew (fun hS => ?_)
        try simp only [Act.put, List.setIfInBounds_toArray, List.set_cons_zero, List.set_cons_succ]
        refine wpH_op 1 (oi := { dst := some 49, op := Op.load 26 (Operand.tmp 48), type := 26, pos := "ref.go:98", after := #[{ on := 0, ground := Ground.data }], guard := none }) rfl (by kernel_rfl) (by rfl) ?_
        refine wp_loads (.slice ua ns.length uc) (by go_simp; try rfl) ?_
        refine ⟨hS, ?_⟩
        try simp only [Act.put, List.setIfInBounds_toArray, List.set_cons_zero, List.set_cons_succ]
        refine wpH_op 8 (oi := { dst := some 56, op := Op.call { callee := Callee.builtin Builtin.append, args := #[Operand.tmp 49, Operand.tmp 55], argTypes := #[26, 26] }, type := 26, pos := "ref.go:98", after := #[{ on := 1, ground := Ground.data }, { on := 7, ground := Ground.data }], guard := none }) rfl (by kernel_rfl) (by rfl) ?_
        refine wp_appS (.tmp 49) (.tmp 55) rfl (w4.heap.size + 1) _ ns rfl (by exact hR.alloc _) _ 0 1 1 [n] rfl rfl (by exact ssrc1 _ _ _) (by simp; omega) (by simp; omega) ?_
        rintro v8 w8 hS8 hb8
        obtain ⟨va8, vc8, rfl⟩ := hS8.form
        refine hold_and (hS.trans (hb8.mono (Nat.le_succ _))) (fun hS => ?_)
        have C8 : Blk w8 w4.heap.size _ := C2.of_block (hb8.block _ (Nat.lt_succ_self _)) hb8.size
        obtain ⟨z1, z2, z3⟩ := id C8
        try simp only [Act.put, List.setIfInBounds_toArray, List.set_cons_zero, List.set_cons_succ]
        (refine wpH_pure 9 ?_ (oi := { dst := some 57, op := Op.fieldAddr 28 (Operand.tmp 12) 1, type := 0, pos := "ref.go:98", after := #[{ on := 0, ground := Ground.phase }, { on := 1, ground := Ground.phase }, { on := 2, ground := Ground.phase }, { on := 3, ground := Ground.phase }, { on := 4, ground := Ground.phase }, { on := 5, ground := Ground.phase }, { on := 6, ground := Ground.phase }, { on := 7, ground := Ground.phase }, { on := 8, ground := Ground.phase }], guard := none }) rfl (by kernel_rfl) (by kernel_rfl) (by kernel_rfl) (by rfl) hS (fun _ _ _ h => h) ?_ ?_; rotate_left; focus (intro w; go_simp; try with_reducible rfl))
        try simp only [Act.put, List.setIfInBounds_toArray, List.set_cons_zero, List.set_cons_succ]
        refine wpH_op 10 (oi := { dst := none, op := Op.store 26 (Operand.tmp 57) (Operand.tmp 56), type := 0, pos := "ref.go:98", after := #[{ on := 9, ground := Ground.data }, { on := 8, ground := Ground.data }, { on := 8, ground := Ground.chain }, { on := 0, ground := Ground.phase }, { on := 1, ground := Ground.phase }, { on := 2, ground := Ground.phase }, { on := 3, ground := Ground.phase }, { on := 4, ground := Ground.phase }, { on := 5, ground := Ground.phase }, { on := 6, ground := Ground.phase }, { on := 7, ground := Ground.phase }, { on := 8, ground := Ground.phase }], guard := none }) rfl (by kernel_rfl) (by rfl) ?_
        unfold Oper.wp; go_simp
        refine hold_and (Below.setCell (p := ⟨w4.heap.size, 1, none⟩) hS (Nat.le_refl _) _) (fun hS => ?_)
        try simp only [Act.put, List.setIfInBounds_toArray, List.set_cons_zero, List.set_cons_succ]
        refine wpAnyH_done (by kernel_rfl) ?_ _
        rotate_left
        all_goals
          go_wp2_with fail
          refine ⟨⟨i + 1, _, by omega, by go_num, C8.set 1 _, ?_, hbq.trans hS⟩, by simp [intOf]; omega⟩
          rw [HN2.out]
          rw [show (ns ++ [n]).length = ns.length + 1 from by simp] at hS8
          exact hS8.mod (p := w4.heap.size) ((Mod.refl _ _).setCell (p := ⟨w4.heap.size, 1, none⟩) (.inl (by simp)) _) (Nat.lt_succ_self _)
    · obtain rfl : i = l.length := by omega
      rw [List.take_length] at hS
      have d1 : decide ((l.length : Int) < (l.length : Int)) = false := by simp
      obtain ⟨ua, uc, rfl⟩ := hS.form
      have hck := rcheck7_any tag _ (.agg #[.string ⟨List.toArray (s)⟩, .slice ua (selN M m l).length uc]) lv l s _ base M hM HSO.out _ (HV.out.keep hb5) ⟨_, rfl, hS.ss⟩ (HG.out.keep hb5) HSL.out
      rw [HGS.out] at hck
      have HR3 : Hid ((if ofM l (selN M m l) < quoM l then (([], []), 71) else ((s, selN M m l), (0 : Int))) = r) := HR2
      clear HR2 HGS
      generalize selN M m l = ns at *
      obtain ⟨x1, x2, x3⟩ := id C
      have B5 := B4.keep hbq
      obtain ⟨b1, b2, b3⟩ := id B5
      by_cases hxy : ofM l ns < quoM l
      · have HZ : Hid ((([], []), (71 : Int)) = r) := Lib.hid (by rw [← HR3.out, if_pos hxy])
        rw [if_pos hxy] at hck
        clear HR3 hxy
        go_wp2_with fail
        refine hck.mono ?_
        rintro e w6 ⟨rfl, hb⟩
        have hb6 := hb5.trans (hb.mono hb5.size)
        have B6 := B5.keep hb
        clear b1 b2 b3 x1 x2 x3
        obtain ⟨b1, b2, b3⟩ := id B6
        go_wp2_with fail
        refine bodyPost_ret (results_ct rfl _ _ _ _ rfl (rowC_load (x := .string ⟨List.toArray ([])⟩) (y := .slice none 0 0) ((B6.set 0 _).set 1 _))) rfl ?_
        refine ⟨.slice none 0 0, by rw [← HZ.out]; rfl, by rw [← HZ.out]; exact SRow.nil _ _, ?_⟩
        (repeat (first | exact Below.refl _ _ | assumption | apply Below.drew | apply below_drewN | apply Below.allocS | (refine Below.setCell ?_ (by simp <;> omega) _) | (refine Below.alloc ?_ (by simp <;> omega) _) | (refine Below.trans ?_ (Below.mono (by assumption) (by simp <;> omega)))))
      · have HZ : Hid (((s, ns), (0 : Int)) = r) := Lib.hid (by rw [← HR3.out, if_neg hxy])
        rw [if_neg hxy] at hck
        clear HR3 hxy
        go_wp2_with fail
        refine hck.mono ?_
        rintro e w6 ⟨rfl, hb⟩
        have hb6 := hb5.trans (hb.mono hb5.size)
        have B6 := B5.keep hb
        have C6 := C.keep hb
        have hS6 := hS.keep hb
        have hs6 := hb.size
        clear b1 b2 b3 x1 x2 x3
        obtain ⟨b1, b2, b3⟩ := id B6
        obtain ⟨x1, x2, x3⟩ := id C6
        go_wp2_with fail
        refine bodyPost_ret (results_ct rfl _ _ _ _ rfl (rowC_load (x := .string ⟨List.toArray (s)⟩) (y := .slice ua ns.length uc) ((B6.set 0 _).set 1 _))) rfl ?_
        refine ⟨.slice ua ns.length uc, by rw [← HZ.out]; rfl, ?_, ?_⟩
        · rw [← HZ.out]; exact (SRow.mod (p := w.heap.size) hS6 (((Mod.refl _ _).setCell (.inl (by simp)) _).setCell (.inl (by simp)) _) (by omega)).low (by omega)
        · (repeat (first | exact Below.refl _ _ | assumption | apply Below.drew | apply below_drewN | apply Below.allocS | (refine Below.setCell ?_ (by simp <;> omega) _) | (refine Below.alloc ?_ (by simp <;> omega) _) | (refine Below.trans ?_ (Below.mono (by assumption) (by simp <;> omega)))))
end Go.Proofs.YtbnjhfkmdejeaaaDoor

/- Walk of the statement CertCodes. -/
set_option linter.unusedSimpArgs false
set_option linter.unusedVariables false
namespace Go.Proofs.YtbnjhfkmdejeaaaDoor
open Go.RowKit Pl

namespace Pl
def fewA (each : Int) (l : List Bs) : Bool := l.all fun x => decide ((x.length : Int) ≤ each)
def fewP (l : List Bs) (n each : Int) : Bool := decide ((l.length : Int) ≤ n) && fewA each l
theorem fewA_drop (each : Int) (l : List Bs) (i : Nat) (hi : i < l.length) : fewA each (l.drop i) = (decide (((l.getD i []).length : Int) ≤ each) && fewA each (l.drop (i + 1))) := by
  rw [dropS l i hi]
  rfl
theorem fewP_parts {l : List Bs} {n each : Int} (h : fewP l n each = true) : (l.length : Int) ≤ n ∧ ∀ i, i < l.length → ((l.getD i []).length : Int) ≤ each := by
  simp only [fewP, Bool.and_eq_true, decide_eq_true_eq] at h
  refine ⟨h.1, fun i hi => ?_⟩
  have := List.all_eq_true.1 h.2 (l.getD i []) (by rw [List.getD_eq_getElem?_getD, List.getElem?_eq_getElem hi]; exact List.getElem_mem hi)
  simpa using this
end Pl

set_option maxRecDepth 100000 in
set_option maxHeartbeats 400000 in
theorem few_any (v : Value) (l : List Bs) (n each : Int) (w : World) (hv : SS w v l) :
    Calls Tryd.prog 10 #[v, .int .i64 (n), .int .i64 (each)] w fun e w' => e = .returned (.bool (fewP l n each)) ∧ Below w.heap.size w w' := by
  generalize hr : fewP l n each = r
  have HR := Lib.hid hr
  clear hr
  obtain ⟨a, c, rfl⟩ := hv.form
  have HV := Lib.hid hv
  have hm := hv.small
  clear hv
  by_cases hn : n < (l.length : Int)
  · have hd : decide (n < (l.length : Int)) = true := by simpa using hn
    have HZ : Hid (false = r) := Lib.hid (by rw [← HR.out]; have : ¬ (l.length : Int) ≤ n := (by omega); simp [fewP, this])
    go_enter Tryd.func10, Tryd.ntmps10
    go_wp2_with fail
    all_goals (go_ret; exact ⟨by rw [← HZ.out]; rfl, Below.refl _ _⟩)
  · have hd : decide (n < (l.length : Int)) = false := by simpa using hn
    have HZ : Hid (fewA each l = r) := Lib.hid (by rw [← HR.out]; have : (l.length : Int) ≤ n := (by omega); simp [fewP, this])
    clear HR
    go_enter Tryd.func10, Tryd.ntmps10
    go_wp2_with fail
    go_loopw [7] (fun s7 wr => ∃ i : Nat, i ≤ l.length ∧ s7 = .int .i64 i ∧ Hid (fewA each (l.drop i) = r) ∧ Below w.heap.size w wr) (fun s7 _ => l.length - (intOf s7).toNat)
    case atStart => exact ⟨0, by omega, rfl, Lib.hid HZ.out, Below.refl _ _⟩
    case round =>
      obtain ⟨i, hi, rfl, HI, hb⟩ := hrel
      obtain ⟨wq, h⟩ := Below.nm hb
      subst h
      by_cases hlt : i < l.length
      · have hlt' : (i : Int) < (l.length : Int) := by omega
        obtain ⟨g, off, rfl, c1⟩ := (HV.out.keep hb).at i hlt
        have hi2 := HI.out
        rw [fewA_drop each l i hlt] at hi2
        generalize hx : l.getD i [] = x at *
        have HX := Lib.hid hx
        clear hx
        by_cases hle : each < (x.length : Int)
        · have hd2 : decide (each < (x.length : Int)) = true := by simpa using hle
          have HQ : Hid (false = r) := Lib.hid (by rw [← hi2]; have : ¬ (x.length : Int) ≤ each := (by omega); simp [this])
          clear HI hi2 HZ
          go_wp2_with fail
          all_goals (go_ret; exact ⟨by rw [← HQ.out]; rfl, hb⟩)
        · have hd2 : decide (each < (x.length : Int)) = false := by simpa using hle
          have HQ : Hid (fewA each (l.drop (i + 1)) = r) := Lib.hid (by rw [← hi2]; have : (x.length : Int) ≤ each := (by omega); simp [this])
          clear HI hi2 HZ
          go_wp2_with fail
          exact ⟨⟨i + 1, by omega, by go_num, HQ, hb⟩, by simp [intOf]; omega⟩
      · obtain rfl : i = l.length := by omega
        have hlt' : ¬ (l.length : Int) < (l.length : Int) := by omega
        have HQ : Hid (true = r) := Lib.hid (by rw [← HI.out]; simp [fewA])
        clear HI HZ
        go_wp2_with fail
        all_goals (go_ret; exact ⟨by rw [← HQ.out]; rfl, hb⟩)

end Go.Proofs.YtbnjhfkmdejeaaaDoor
