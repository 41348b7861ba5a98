/- VComW, VPru, MarksV, VWorksP. -/
import Derived.Test.YtjppbomngnomhaaGreatDoorMx20
set_option linter.unnecessarySimpa false
set_option linter.unusedSimpArgs false
set_option linter.unusedVariables false
set_option maxRecDepth 100000
set_option maxHeartbeats 32000000
namespace Go.Proofs.YtjppbomngnomhaaGreatDoor
open Go.RowKit Go.WideMaps Go.Maps Go.Sort Go.Shelf Pl
theorem Typ.grownM {w w' : World} {v m : Nat} {t : TypeId} (h : Typ w v t) (hm : IsMap w m) (hg : w.grownBy w' (some m)) : Typ w' v t := h.at (hg.block v h.lt (by
 intro e
 injection e with e
 subst e
 obtain ⟨es, c, h1⟩ := hm
 obtain ⟨cs, h2⟩ := h
 rw [h1] at h2
 cases h2))
theorem Mod.ofG {w w' : World} {m : Nat} (h : w.grownBy w' (some m)) : Mod [m] w w' :=
 ⟨h.os, h.tape, h.output, h.size, fun k hk hn => h.block k hk (fun e => hn (by injection e with e; simp [e]))⟩
theorem chgsR_cons (t : Tri) (L : List It) (x : It) (r : List It) : chgsR t L (x :: r) = if chgC t L x = 0 then chgsR (chgT t x) (chgL t L x) r else ((t, L), chgC t L x) := rfl
theorem BTx.low {w : World} {b c : Nat} {v : Value} {t : Bs} (h : BTx w c v t) (hbc : b ≤ c) : BTx w b v t := by
 obtain ⟨g, cap, cs, fz, q1, q2, q3⟩ := h
 exact ⟨g, cap, cs, fz, q1, Nat.le_trans hbc q2, q3⟩
def ComQ (w : World) (base : Nat) (a : VA) (r : Vs × (Bs × Int)) (e : Ending) (w' : World) : Prop :=
 e = .returned (.tuple #[.string ⟨List.toArray r.2.1⟩, .int .i64 r.2.2]) ∧ VAt w' base a r.1 ∧ Mod [a.v, a.rb, a.sb] w w'
theorem vcommit_any (base : Nat) (a : VA) (x : Vs) (hx : VsOk x) (h : Int) (hh : -9223372036854775808 ≤ h ∧ h ≤ 9223372036854775807) (v : Value) (l : List It) (hsh : ∀ y ∈ l, y.1.length ≤ 1000000 ∧ y.2.length ≤ 1000000) (hll : x.L.length + l.length ≤ 1000) (hTl : x.T.length ≤ 30000) (hRl : x.R.length < 100000) (w : World) (hbase : base ≤ w.heap.size) (hk : KT w) (hv : IL w v l) (hV : VAt w base a x) :
  Calls Tryz.prog 8 #[.pointer (some ⟨a.v, 0, none⟩), .int .i64 h, v] w (ComQ w base a (commitV x h l)) := by
 obtain ⟨va, vc, rfl⟩ := hv.form
 obtain ⟨pt, hB, hT⟩ := hV.blk
 have c3 : w.cell? ⟨a.v, 3, none⟩ = some (.int .i64 x.last) := hB.cell 3
 have c4 : w.cell? ⟨a.v, 4, none⟩ = some (.int .i64 x.below) := hB.cell 4
 have c2 : w.cell? ⟨a.v, 2, none⟩ = some (.pointer (some ⟨pt, 0, none⟩)) := hB.cell 2
 have HV0 := Lib.hid hV
 have hV0ne := hV.ne
 generalize hz : commitV x h l = z
 have HZ := Lib.hid hz
 clear hz
 by_cases h1 : h < 0 ∨ 1048576 < h
 ·have HE : Hid (z = (x, ([], 1))) := Lib.hid (by rw [← HZ.out]; unfold commitV; rw [if_pos h1])
  rw [HE.out]
  clear HZ HE hV hB hT c3 c4 c2 hx hv hk
  by_cases h2 : h < 0
  ·have d1 : decide (h < 0) = true := by simpa using h2
   clear h1 h2
   go_enter Tryz.func8, Tryz.ntmps8
   go_wp2_with fail
   go_ret2
   exact ⟨rfl, HV0.out, Mod.refl _ _⟩
  ·have d1 : decide (h < 0) = false := by simpa using h2
   have d2 : decide (1048576 < h) = true := by rcases h1 with h1 | h1 <;> simp <;> omega
   clear h1 h2
   go_enter Tryz.func8, Tryz.ntmps8
   go_wp2_with fail
   go_ret2
   exact ⟨rfl, HV0.out, Mod.refl _ _⟩
 ·have d1 : decide (h < 0) = false := by simp; omega
  have d2 : decide (1048576 < h) = false := by simp; omega
  by_cases h3 : h ≤ x.last ∨ h < x.below
  ·have HE : Hid (z = (x, ([], 120))) := Lib.hid (by rw [← HZ.out]; unfold commitV; rw [if_neg h1, if_pos h3])
   rw [HE.out]
   clear HZ HE hV hB hT c2 hx hv hk h1
   by_cases h4 : h ≤ x.last
   ·have d3 : decide (h ≤ x.last) = true := by simpa using h4
    clear h3 h4
    go_enter Tryz.func8, Tryz.ntmps8
    go_wp2_with fail
    go_ret2
    exact ⟨rfl, HV0.out, Mod.refl _ _⟩
   ·have d3 : decide (h ≤ x.last) = false := by simpa using h4
    have d4 : decide (h < x.below) = true := by rcases h3 with h3 | h3 <;> simp <;> omega
    clear h3 h4
    go_enter Tryz.func8, Tryz.ntmps8
    go_wp2_with fail
    go_ret2
    exact ⟨rfl, HV0.out, Mod.refl _ _⟩
  ·have d3 : decide (h ≤ x.last) = false := by simp; omega
   have d4 : decide (h < x.below) = false := by simp; omega
   have HZ2 : Hid (z = if (chgsR x.new x.L l).2 ≠ 0 then (x, ([], (chgsR x.new x.L l).2)) else (⟨saveT x.T (nodesT (chgsR x.new x.L l).1.1), x.R ++ [(h, sumT (chgsR x.new x.L l).1.1)], (chgsR x.new x.L l).1.1, h, x.below, (chgsR x.new x.L l).1.2⟩, (sumT (chgsR x.new x.L l).1.1, 0))) := Lib.hid (by rw [← HZ.out]; unfold commitV; rw [if_neg h1, if_neg h3])
   have HH : Hid (0 ≤ h ∧ h ≤ 1048576 ∧ x.last < h) := Lib.hid ⟨by omega, by omega, by omega⟩
   have HX := Lib.hid hx
   have HB := Lib.hid hB
   have HT := Lib.hid hT
   have HIL := Lib.hid hv
   have HK := Lib.hid hk
   have HSH := Lib.hid hsh
   clear HZ h1 h3 hx hB hT hv hk hV hsh
   go_enter Tryz.func8, Tryz.ntmps8
   go_wp2_with fail
   go_loopw [37, 8, 7] (fun s37 s8 s7 wr => ∃ (i pt' : Nat) (t' : Tri) (L' : List It), s37 = .int .i64 i ∧ i ≤ l.length ∧ s8 = .pointer (some ⟨pt', 0, none⟩) ∧ s7 = .int .i64 0 ∧ Hid (TAt wr pt' t') ∧ Hid (GTr t' L') ∧ Hid (chgsR x.new x.L l = chgsR t' L' (l.drop i)) ∧ Hid (L'.length ≤ x.L.length + i) ∧ Hid (Below w.heap.size w wr)) (fun s37 _ _ _ => l.length - (intOf s37).toNat)
   case atStart => exact ⟨0, pt, x.new, x.L, rfl, Nat.zero_le _, rfl, rfl, HT, Lib.hid HX.out.gt, Lib.hid (by rw [List.drop_zero]), Lib.hid (Nat.le_refl _), Lib.hid (Below.refl _ _)⟩
   case round =>
    obtain ⟨i, pt', t', L', rfl, hi, rfl, rfl, HTr, HGr, HCr, HLr, HBr⟩ := hrel
    obtain ⟨wr, hwr⟩ := Below.name HBr.out
    subst hwr
    by_cases hlt : i < l.length
    ·have e0 : decide ((i : Int) < (l.length : Int)) = true := by simp; omega
     have i0 : 0 ≤ (i : Int) ∧ (i : Int) < (l.length : Int) := by omega
     obtain ⟨g, off, rfl, hg, e1, e2⟩ := (HIL.out.keep HBr.out).at i hlt
     have hdr := dropIt l i hlt
     have hxm : l.getD i ([], []) ∈ l := by
      rw [List.getD_eq_getElem?_getD, List.getElem?_eq_getElem hlt]
      exact List.getElem_mem hlt
     obtain ⟨s1, s2⟩ := HSH.out _ hxm
     have hQ2 := HCr.out
     rw [hdr] at hQ2
     clear hdr hxm HCr
     generalize l.getD i ([], []) = y at *
     obtain ⟨k, u⟩ := y
     simp only at e1 e2 s1 s2
     rw [chgsR_cons] at hQ2
     have hbA : Below wr.heap.size wr (wr.alloc (.cells #[.string ⟨List.toArray k⟩, .string ⟨List.toArray u⟩] 43)) := Below.allocS (Below.refl _ _) _
     have HBA := Lib.hid (HBr.out.trans (hbA.mono HBr.out.size))
     have HCH := Lib.hid (changed_any pt' t' L' HGr.out k u s1 s2 _ (HK.out.keep HBA.out) (HTr.out.keep hbA))
     clear hbA
     by_cases hc : chgC t' L' (k, u) = 0
     ·rw [if_pos hc] at hQ2
      have HQ2 := Lib.hid hQ2
      have HGN := Lib.hid (HGr.out.chg (k, u) hc)
      have HLN : Hid ((chgL t' L' (k, u)).length ≤ x.L.length + (i + 1)) := Lib.hid (by have h1 := chgL_len (t := t') (L := L') (k, u); have h2 := HLr.out; omega)
      rw [hc] at HCH
      clear hc hQ2
      go_wp2_with fail
      refine HCH.out.mono ?_
      rintro e w2 ⟨hb2, he⟩
      rcases he with ⟨h0, _⟩ | ⟨_, p2, rfl, hT2⟩
      ·exact absurd rfl h0
      ·have HT2 := Lib.hid hT2
       have HB2 := Lib.hid (HBA.out.trans (hb2.mono HBA.out.size))
       clear hT2 hb2 HCH
       go_wp2_with fail
       exact ⟨⟨i + 1, p2, chgT t' (k, u), chgL t' L' (k, u), by go_num, by omega, rfl, rfl, HT2, HGN, HQ2, HLN, HB2⟩, by simp [intOf]; omega⟩
     ·rw [if_neg hc] at hQ2
      have HQ2 := Lib.hid hQ2
      have HE : Hid (z = (x, ([], chgC t' L' (k, u)))) := Lib.hid (by rw [HZ2.out, HQ2.out]; simp [hc])
      have z1 : (chgC t' L' (k, u) == 0) = false := by simpa using hc
      have z2 : (chgC t' L' (k, u) != 0) = true := by simpa using hc
      have HN0 := Lib.hid hc
      clear hc hQ2
      generalize chgC t' L' (k, u) = c at *
      go_wp2_with fail
      refine HCH.out.mono ?_
      rintro e w2 ⟨hb2, he⟩
      rcases he with ⟨_, rfl⟩ | ⟨h0, _⟩
      ·have HB2 := Lib.hid (HBA.out.trans (hb2.mono HBA.out.size))
       clear hb2 HCH
       go_wp2_with fail
       go_ret2
       rw [HE.out]
       exact ⟨rfl, HV0.out.keep HB2.out, Mod.of_below HB2.out⟩
      ·exact absurd h0 HN0.out
    ·have e : i = l.length := by omega
     subst e
     have e0 : decide ((l.length : Int) < (l.length : Int)) = false := by simp
     have hQ2 := HCr.out
     rw [List.drop_length, show chgsR t' L' [] = ((t', L'), 0) from rfl] at hQ2
     have HE : Hid (z = (⟨saveT x.T (nodesT t'), x.R ++ [(h, sumT t')], t', h, x.below, L'⟩, (sumT t', 0))) := Lib.hid (by rw [HZ2.out, hQ2]; simp)
     have hBr := HB.out.keep HBr.out
     have hVr := HV0.out.keep HBr.out
     have q2 : wr.cell? ⟨a.v, 2, none⟩ = some (.pointer (some ⟨pt, 0, none⟩)) := hBr.cell 2
     have q3 : wr.cell? ⟨a.v, 3, none⟩ = some (.int .i64 x.last) := hBr.cell 3
     have q0 : wr.cell? ⟨a.v, 0, none⟩ = some (.pointer (some ⟨a.sp, 0, none⟩)) := hBr.cell 0
     have qf := hBr.froz
     have ql := hBr.lt
     have HM2 : Hid (Mod [a.v] wr ((wr.setCell ⟨a.v, 2, none⟩ (.pointer (some ⟨pt', 0, none⟩))).setCell ⟨a.v, 3, none⟩ (.int .i64 h))) := Lib.hid (((Mod.refl _ _).setCell (.inl (by simp)) _).setCell (.inl (by simp)) _)
     have HB2 : Hid (Blk ((wr.setCell ⟨a.v, 2, none⟩ (.pointer (some ⟨pt', 0, none⟩))).setCell ⟨a.v, 3, none⟩ (.int .i64 h)) a.v #[.pointer (some ⟨a.sp, 0, none⟩), .map (some a.rb), .pointer (some ⟨pt', 0, none⟩), .int .i64 h, .int .i64 x.below]) := Lib.hid ((hBr.set 2 (.pointer (some ⟨pt', 0, none⟩))).set 3 (.int .i64 h))
     have HT2 : Hid (Typ ((wr.setCell ⟨a.v, 2, none⟩ (.pointer (some ⟨pt', 0, none⟩))).setCell ⟨a.v, 3, none⟩ (.int .i64 h)) a.v 57) := Lib.hid ((hVr.typ.set 2 _).set 3 _)
     have HK2 := Lib.hid (KT.modv hBr HM2.out (HK.out.keep HBr.out))
     have HTT := Lib.hid (TAt.modv hBr HM2.out HTr.out)
     have HS2 := Lib.hid (Sto.modv hVr.typ HM2.out hVr.sto)
     have HR2 := Lib.hid (RtM.modv hVr.typ HM2.out hVr.roots)
     have hnd := HGr.out.nodes
     have hlr := HLr.out
     have HSV := Lib.hid (tsave_any base a.sp a.sb x.T pt' t' HGr.out.rep.ok HGr.out.can (by omega) (by omega) _ HK2.out HTT.out HS2.out)
     have hrt := sum_short HGr.out
     have HNE : Hid (a.rb ≠ a.sb) := Lib.hid (fun e => hV0ne e.symm)
     have HMr := Lib.hid (Mod.of_below (l := [a.v, a.rb, a.sb]) HBr.out)
     clear hQ2 HCr HZ2 hBr hVr hnd hlr HLr e0
     have HTL : Hid (saveT x.T (nodesT t') = saveT x.T (nodesT t')) := Lib.hid rfl
     generalize saveT x.T (nodesT t') = T2 at *
     generalize sumT t' = rt at *
     go_wp2_with fail
     refine HSV.out.mono ?_
     rintro e w3 ⟨rfl, hS3, hg3⟩
     have HMM := Lib.hid (MM.of_grown HS2.out.ismap hg3)
     have HB3 := Lib.hid (HB2.out.mm HMM.out (by simp))
     have HT3 := Lib.hid (HT2.out.grownM HS2.out.ismap hg3)
     have HR3 := Lib.hid (HR2.out.mm HMM.out (hg3.block a.rb HR2.out.lt (by simpa using HNE.out)))
     have HTT3 := Lib.hid (HTT.out.mm HMM.out)
     have HS3 := Lib.hid hS3
     have HM3 : Hid (Mod [a.v, a.rb, a.sb] w w3) := Lib.hid ((HMr.out.call HM2.out (by simp)).call (Mod.ofG hg3) (by simp))
     have q1 : w3.cell? ⟨a.v, 1, none⟩ = some (.map (some a.rb)) := HB3.out.cell 1
     have hsz3 : base ≤ w3.heap.size := Nat.le_trans hbase HM3.out.size
     have hkn : h ∉ hrs x.R := fun hin => by
      obtain ⟨e, he, e2⟩ := List.mem_map.1 hin
      have h1 := (HX.out.rts e he).2.2
      have h2 := HH.out.2.2
      omega
     have HKN := Lib.hid hkn
     clear hS3 hg3 HSV HMM HR2 HTT HS2 HB2 HT2 HK2 HM2 HMr hkn
     go_wp2_with (refine wpList_convT rfl (.tmp 70) rfl rt rfl (by unfold maxLen; omega) ?_; intro u w4 hu hb4; obtain ⟨w5, hrun5, hR5, hg5⟩ := (HR3.out.keep hb4).update (by omega) h hh HKN.out rt u (hu.low hsz3))
     go_ret2
     have hM45 := MM.of_grown (HR3.out.keep hb4).map hg5
     have hB5 := (HB3.out.keep hb4).mm hM45 (by simp)
     have hT5 := ((HTT3.out.keep hb4).mm hM45)
     have hY5 := (HT3.out.keep hb4).grownM (HR3.out.keep hb4).map hg5
     have hS4 := HS3.out.keep hb4
     have hS5 := hS4.mm hM45 (hg5.block a.sb hS4.blt (by simpa using fun e => HNE.out e.symm))
     rw [HE.out]
     exact ⟨rfl, ⟨HV0.out.hv, HV0.out.hr, ⟨pt', hB5, hT5⟩, hY5, hS5, hR5, HV0.out.ne⟩, (HM3.out.grow (hb4.mono HM3.out.size)).call (Mod.ofG hg5) (by simp)⟩
end Go.Proofs.YtjppbomngnomhaaGreatDoor
namespace Go.Proofs.YtjppbomngnomhaaGreatDoor
open Go.RowKit Go.WideMaps Go.Maps Go.Sort Go.Shelf Pl
theorem own_tightT {H : Type} {w : World} {R : Value → Option (DataW H × List MemPlace)} {t : TypeId} {b n : Nat} {D : DataW H} (h : w.ownsMap Tryz.prog t R b n D) : w.ownsMap Tryz.prog t R b (Maps.size D) D := by
 obtain ⟨es, c, h1, h2, h3, rfl⟩ := h
 exact ⟨es, c, h1, h2, by simp [Maps.size, length_sorted], rfl⟩
def goesB (below last k : Int) : Bool := decide (k < below) && decide (k ≠ last)
def outR (R : List (Int × Bs)) (ks : List Int) : List (Int × Bs) := R.filter fun e => !ks.contains e.1
theorem outR_nil (R : List (Int × Bs)) : outR R [] = R := by
 unfold outR
 rw [List.filter_eq_self]
 intro e _; simp
theorem outR_snoc (R : List (Int × Bs)) (ks : List Int) (k : Int) : outR R (ks ++ [k]) = delR (outR R ks) k := by
 unfold outR delR
 rw [List.filter_filter]
 congr 1
 funext e
 simp only [List.contains_eq_mem, List.mem_append, List.mem_singleton]
 by_cases h1 : e.1 ∈ ks <;> by_cases h2 : e.1 = k <;> simp [h1, h2]
theorem outR_mem {R : List (Int × Bs)} {ks : List Int} {e : Int × Bs} : e ∈ outR R ks ↔ e ∈ R ∧ e.1 ∉ ks := by
 unfold outR
 rw [List.mem_filter]
 simp
def stayR (x : Vs) (below : Int) : List (Int × Bs) := x.R.filter fun e => !goesB below x.last e.1
theorem outR_all (x : Vs) (below : Int) : outR x.R ((sortZ (hrs x.R)).filter (goesB below x.last)) = stayR x below := by
 unfold outR stayR
 refine List.filter_congr fun e he => ?_
 congr 1
 rw [List.contains_eq_mem, Bool.eq_iff_iff, decide_eq_true_eq, List.mem_filter, sortZ_mem]
 exact ⟨fun h => h.2, fun h => ⟨List.mem_map.2 ⟨e, he, rfl⟩, h⟩⟩
def rootOf (R : List (Int × Bs)) (k : Int) : Bs := (findR R k).getD []
theorem rootOf_in {R : List (Int × Bs)} (hn : (hrs R).Nodup) {k : Int} {r : Bs} (h : (k, r) ∈ R) : rootOf R k = r := by
 obtain ⟨r', h1, h2⟩ := findR_in (List.mem_map.2 ⟨(k, r), h, rfl⟩ : k ∈ hrs R)
 unfold rootOf
 rw [h1, Option.getD_some]
 have : ∀ (R : List (Int × Bs)), (hrs R).Nodup → (k, r') ∈ R → (k, r) ∈ R → r' = r := by
  intro R
  induction R with
  | nil => intro _ h; cases h
  | cons y s ih =>
   intro hn h1 h2
   unfold hrs at hn
   rw [List.map_cons, List.nodup_cons] at hn
   rcases List.mem_cons.1 h1 with e1 | e1
   ·rcases List.mem_cons.1 h2 with e2 | e2
    ·rw [← e1] at e2; injection e2 with _ e2; exact e2.symm
    ·exact absurd (List.mem_map.2 ⟨(k, r), e2, by rw [← e1]⟩) hn.1
   ·rcases List.mem_cons.1 h2 with e2 | e2
    ·exact absurd (List.mem_map.2 ⟨(k, r'), e1, by rw [← e2]⟩) hn.1
    ·exact ih hn.2 e1 e2
 exact this R hn h2 h
theorem takeZ (l : List Int) (i : Nat) (hi : i < l.length) : l.take (i + 1) = l.take i ++ [l.getD i 0] := by
 rw [List.take_add_one, List.getElem?_eq_getElem hi, List.getD_eq_getElem?_getD, List.getElem?_eq_getElem hi]
 rfl
theorem dropZ (l : List Int) (i : Nat) (hi : i < l.length) : l.drop i = l.getD i 0 :: l.drop (i + 1) := by
 rw [List.drop_eq_getElem_cons hi, List.getD_eq_getElem?_getD, List.getElem?_eq_getElem hi]
 rfl
def dropsZ (below last : Int) (l : List Int) : List Int := l.filter (goesB below last)
def staysZ (R : List (Int × Bs)) (below last : Int) (l : List Int) : List Bs := (l.filter fun k => !goesB below last k).map (rootOf R)
theorem dropsZ_yes {b l : Int} {ks : List Int} {k : Int} (h : goesB b l k = true) : dropsZ b l (ks ++ [k]) = dropsZ b l ks ++ [k] := by simp [dropsZ, List.filter_append, h]
theorem dropsZ_no {b l : Int} {ks : List Int} {k : Int} (h : goesB b l k = false) : dropsZ b l (ks ++ [k]) = dropsZ b l ks := by simp [dropsZ, List.filter_append, h]
theorem staysZ_yes {R : List (Int × Bs)} {b l : Int} {ks : List Int} {k : Int} (h : goesB b l k = true) : staysZ R b l (ks ++ [k]) = staysZ R b l ks := by simp [staysZ, List.filter_append, h]
theorem staysZ_no {R : List (Int × Bs)} {b l : Int} {ks : List Int} {k : Int} (h : goesB b l k = false) : staysZ R b l (ks ++ [k]) = staysZ R b l ks ++ [rootOf R k] := by simp [staysZ, List.filter_append, h]
theorem stays_mem (x : Vs) (hn : (hrs x.R).Nodup) (below : Int) (r : Bs) : r ∈ staysZ x.R below x.last (sortZ (hrs x.R)) ↔ ∃ e ∈ stayR x below, e.2 = r := by
 unfold staysZ stayR
 rw [List.mem_map]
 constructor
 ·rintro ⟨k, hk, rfl⟩
  rw [List.mem_filter, sortZ_mem] at hk
  obtain ⟨e, he, rfl⟩ := List.mem_map.1 hk.1
  exact ⟨e, List.mem_filter.2 ⟨he, hk.2⟩, (rootOf_in hn (show (e.1, e.2) ∈ x.R from he)).symm⟩
 ·rintro ⟨e, he, rfl⟩
  rw [List.mem_filter] at he
  exact ⟨e.1, List.mem_filter.2 ⟨sortZ_mem.2 (List.mem_map.2 ⟨e, he.1, rfl⟩), he.2⟩, rootOf_in hn (show (e.1, e.2) ∈ x.R from he.1)⟩
theorem grown_belowB {w w1 w2 : World} {r : Option Nat} (h : w.grownBy w1 r) (hb : Below w.heap.size w1 w2) : w.grownBy w2 r :=
 ⟨hb.os.trans h.os, hb.tape.trans h.tape, hb.output.trans h.output, Nat.le_trans h.size hb.size, fun k hk hn => (hb.block k hk).trans (h.block k hk hn)⟩
theorem BTx.grownM {w w' : World} {base m : Nat} {v : Value} {t : Bs} (h : BTx w base v t) (hm : IsMap w m) (hg : w.grownBy w' (some m)) : BTx w' base v t :=
 h.kept hg.size (fun g c fz hc => hg.block g (heap_lt hc) (by
  intro e
  injection e with e
  subst e
  obtain ⟨es, c', h1⟩ := hm
  rw [h1] at hc; cases hc))
theorem sortZ_bnd {l : List Int} {lo hi : Int} (h : ∀ k ∈ l, lo ≤ k ∧ k ≤ hi) : ∀ i, i < (sortZ l).length → lo ≤ (sortZ l).getD i 0 ∧ (sortZ l).getD i 0 ≤ hi := by
 intro i hi'
 rw [List.getD_eq_getElem?_getD, List.getElem?_eq_getElem hi']
 exact h _ (sortZ_mem.1 (List.getElem_mem hi'))
theorem gone_count (x : Vs) (h : Int) : (dropsZ h x.last (sortZ (hrs x.R))).length + (stayR x h).length = x.R.length := by
 have h1 : (dropsZ h x.last (sortZ (hrs x.R))).length = (hrs x.R).countP (goesB h x.last) := by
  unfold dropsZ
  rw [← List.countP_eq_length_filter]
  exact (List.mergeSort_perm _ _).countP_eq _
 have h2 : (stayR x h).length = (hrs x.R).countP (fun k => !goesB h x.last k) := by
  unfold stayR hrs
  rw [← List.countP_eq_length_filter, List.countP_map]
  rfl
 have h3 := List.length_eq_countP_add_countP (p := goesB h x.last) (l := hrs x.R)
 have h4 : (hrs x.R).length = x.R.length := by unfold hrs; rw [List.length_map]
 have h5 : (hrs x.R).countP (fun k => !goesB h x.last k) = (hrs x.R).countP (fun k => decide ¬ goesB h x.last k = true) := by
  congr 1
  funext k
  cases goesB h x.last k <;> rfl
 omega
theorem drops_len (h last : Int) (l : List Int) : (dropsZ h last l).length ≤ l.length := List.length_filter_le _ _
theorem stays_len (R : List (Int × Bs)) (h last : Int) (l : List Int) : (staysZ R h last l).length ≤ l.length := by
 unfold staysZ
 rw [List.length_map]
 exact List.length_filter_le _ _
theorem rootOf_short {R : List (Int × Bs)} {n : Nat} (h : ∀ e ∈ R, e.2.length ≤ n) (k : Int) : (rootOf R k).length ≤ n := by
 unfold rootOf
 by_cases hin : k ∈ hrs R
 ·obtain ⟨r, h1, h2⟩ := findR_in hin
  rw [h1]; exact h _ h2
 ·rw [findR_out hin]; simp
def PruQ (w : World) (base : Nat) (a : VA) (x : Vs) (below : Int) (e : Ending) (w' : World) : Prop :=
 e = .returned (.int .i64 (((x.R.length - (stayR x below).length : Nat) : Int))) ∧
 (∃ S I : List Bs, (∀ r, r ∈ S ↔ ∃ e ∈ stayR x below, e.2 = r) ∧ (∀ s, s ∈ I ↔ Rch x.T S s) ∧ VAt w' base a ⟨keepT x.T I, stayR x below, x.new, x.last, max x.below below, x.L⟩) ∧ Mod [a.v, a.rb, a.sb] w w'
theorem vprune_any (base : Nat) (a : VA) (x : Vs) (hx : VsOk x) (h : Int) (hh : -9223372036854775808 ≤ h ∧ h ≤ 9223372036854775807) (hTl : x.T.length ≤ 50000) (hRl : x.R.length ≤ 50000) (w : World) (hk : KT w) (hV : VAt w base a x) :
  Calls Tryz.prog 10 #[.pointer (some ⟨a.v, 0, none⟩), .int .i64 h] w (PruQ w base a x h) := by
 obtain ⟨pt, hB, hT⟩ := hV.blk
 have c4 : w.cell? ⟨a.v, 4, none⟩ = some (.int .i64 x.below) := hB.cell 4
 have cf := hB.froz
 have cl := hB.lt
 have HM1 : Hid (Mod [a.v] w (w.setCell ⟨a.v, 4, none⟩ (.int .i64 (max x.below h)))) := Lib.hid ((Mod.refl _ _).setCell (.inl (by simp)) _)
 have HB1 : Hid (Blk (w.setCell ⟨a.v, 4, none⟩ (.int .i64 (max x.below h))) a.v #[.pointer (some ⟨a.sp, 0, none⟩), .map (some a.rb), .pointer (some ⟨pt, 0, none⟩), .int .i64 x.last, .int .i64 (max x.below h)]) := Lib.hid (hB.set 4 (.int .i64 (max x.below h)))
 have HV1 : Hid (VAt (w.setCell ⟨a.v, 4, none⟩ (.int .i64 (max x.below h))) base a ⟨x.T, x.R, x.new, x.last, max x.below h, x.L⟩) := Lib.hid ⟨hV.hv, hV.hr, ⟨pt, HB1.out, TAt.modv hB HM1.out hT⟩, hV.typ.set 4 _, Sto.modv hV.typ HM1.out hV.sto, RtM.modv hV.typ HM1.out hV.roots, hV.ne⟩
 have HK1 := Lib.hid (KT.modv hB HM1.out hk)
 have HX := Lib.hid hx
 have HH := Lib.hid (vheights_any base a ⟨x.T, x.R, x.new, x.last, max x.below h, x.L⟩ (by show x.R.length ≤ 100000; omega) _ HV1.out)
 clear hV hB hT hk
 go_enter Tryz.func10, Tryz.ntmps10
 go_wp2_with fail
 refine HH.out.mono ?_
 rintro e w2 ⟨v, rfl, hz, hb2⟩
 obtain ⟨va, vc, rfl⟩ := hz.form
 have HV2 := Lib.hid (HV1.out.keep hb2)
 have HK2 := Lib.hid (HK1.out.keep hb2)
 have HMA : Hid (Mod [a.v, a.rb, a.sb] w w2) := Lib.hid (((Mod.refl _ _).call HM1.out (by simp)).grow (hb2.mono HM1.out.size))
 have HLB : Hid (∀ i, i < (sortZ (hrs x.R)).length → 0 ≤ (sortZ (hrs x.R)).getD i 0 ∧ (sortZ (hrs x.R)).getD i 0 ≤ 1048576) := Lib.hid (sortZ_bnd (fun k hk => by
  obtain ⟨e, he, rfl⟩ := List.mem_map.1 hk
  have h1 := HX.out.rts e he
  have h2 := HX.out.last
  omega))
 have HLM : Hid (∀ i, i < (sortZ (hrs x.R)).length → (sortZ (hrs x.R)).getD i 0 ∈ hrs x.R) := Lib.hid (fun i hi => by
  rw [List.getD_eq_getElem?_getD, List.getElem?_eq_getElem hi]
  exact sortZ_mem.1 (List.getElem_mem hi))
 have HLN : Hid ((sortZ (hrs x.R)).Nodup) := Lib.hid (sortZ_nodup HV2.out.roots.nodup)
 have HOA : Hid (outR x.R (dropsZ h x.last (sortZ (hrs x.R))) = stayR x h) := Lib.hid (outR_all x h)
 have HSM := Lib.hid (stays_mem x HV2.out.roots.nodup h)
 have HGC := Lib.hid (gone_count x h)
 have HLL : Hid ((sortZ (hrs x.R)).length ≤ 50000) := Lib.hid (by rw [sortZ_len]; unfold hrs; rw [List.length_map]; exact hRl)
 have HZR := Lib.hid hz
 obtain ⟨D0, ho0, hD0⟩ := HV2.out.roots
 clear hb2 hz HH HV1 HK1 HM1 HB1 c4 cf cl hx
 generalize (w.setCell ⟨a.v, 4, none⟩ (.int .i64 (max x.below h))).heap.size = sz at *
 generalize sortZ (hrs x.R) = L at *
 go_wp2_with fail
 go_loopw [21, 5, 6, 8] (fun s21 s5 s6 _ wr => ∃ n : Nat, s21 = .int .i64 n ∧ n ≤ L.length ∧ s5 = .int .i64 ((((dropsZ h x.last (L.take n)).length : Nat) : Int)) ∧ Hid (SRow wr w2.heap.size s6 (staysZ x.R h x.last (L.take n))) ∧ Hid (∃ D, wr.ownsMap (H := Value) Tryz.prog 3 hR a.rb (outR x.R (dropsZ h x.last (L.take n))).length D ∧ RtD w2 base D (outR x.R (dropsZ h x.last (L.take n)))) ∧ Hid (w2.grownBy wr (some a.rb))) (fun s21 _ _ _ _ => L.length - (intOf s21).toNat)
 case atStart => exact ⟨0, rfl, Nat.zero_le _, rfl, Lib.hid (SRow.nil _ _), Lib.hid (by rw [List.take_zero, show dropsZ h x.last [] = [] from rfl, outR_nil]; exact ⟨D0, ho0, hD0⟩), Lib.hid ⟨rfl, rfl, rfl, Nat.le_refl _, fun _ _ _ => rfl⟩⟩
 case round =>
  obtain ⟨n, rfl, hn, rfl, HS6, HO6, HG6⟩ := hrel
  clear ho0 hD0
  obtain ⟨pt, hB2, _⟩ := HV2.out.blk
  have hmm := MM.of_grown HV2.out.roots.map HG6.out
  have hBr := hB2.mm hmm (by simp)
  have c1 := hBr.cell 1
  have c3 := hBr.cell 3
  have c0 := hBr.cell 0
  simp only [List.getElem?_toArray, List.getElem?_cons_zero, List.getElem?_cons_succ] at c1 c3 c0
  have HMM := Lib.hid hmm
  clear hB2 hmm
  by_cases hlt : n < L.length
  ·have e0 : decide ((n : Int) < (L.length : Int)) = true := by simp; omega
   have i0 : 0 ≤ (n : Int) ∧ (n : Int) < (L.length : Int) := by omega
   obtain ⟨kb1, kb2⟩ := HLB.out n hlt
   have hkin := HLM.out n hlt
   have HTK := Lib.hid (takeZ L n hlt)
   obtain ⟨g, cap, ev, hgc⟩ : ∃ g cap, Value.slice va L.length vc = .slice (some ⟨g, 0, none⟩) L.length cap ∧ w2.cell? ⟨g, n, none⟩ = some (.int .i64 (L.getD n 0)) := by
    rcases HZR.out.cells with ⟨_, e⟩ | ⟨g, cap, e, _, _, _, _, hc, _⟩
    ·rw [e] at hlt; simp at hlt
    ·exact ⟨g, cap, e, hc n hlt⟩
   injection ev with ev1 _ ev2
   subst ev1 ev2
   have hgr := HMM.out.cell hgc
   have hdl := drops_len h x.last (L.take n)
   rw [List.length_take] at hdl
   obtain ⟨D1, ho1, hD1⟩ := HO6.out
   have hkr : (L.getD n 0, rootOf x.R (L.getD n 0)) ∈ x.R := by
    obtain ⟨r, h1, h2⟩ := findR_in hkin
    rw [show rootOf x.R (L.getD n 0) = r from by unfold rootOf; rw [h1]; rfl]
    exact h2
   have hll := HLL.out
   clear hgc HO6
   have hkd : goesB h x.last (L.getD n 0) = false → L.getD n 0 ∉ dropsZ h x.last (L.take n) := fun hg hm => by
    unfold dropsZ at hm
    rw [List.mem_filter, hg] at hm
    cases hm.2
   have hkn : goesB h x.last (L.getD n 0) = true → L.getD n 0 ∈ hrs (outR x.R (dropsZ h x.last (L.take n))) := fun hg => by
    refine List.mem_map.2 ⟨_, outR_mem.2 ⟨hkr, ?_⟩, rfl⟩
    intro hm
    have h1 := HLN.out
    rw [← List.take_append_drop n L, List.nodup_append] at h1
    refine h1.2.2 _ (List.mem_filter.1 hm).1 (L.getD n 0) ?_ rfl
    rw [dropZ L n hlt]
    simp
   generalize L.getD n 0 = k at *
   by_cases h1 : k < h
   ·have d1 : decide (k < h) = true := by simpa using h1
    by_cases h2 : k = x.last
    ·have d2 : (k == x.last) = true := by simpa using h2
     have d3 : (k != x.last) = false := by simp [h2]
     have hgo : goesB h x.last k = false := by simp [goesB, h2]
     have hkd := hkd hgo
     clear h1 h2 hkn hkin
     have hD' := hD1
     have hout := outR_mem.2 ⟨hkr, hkd⟩
     obtain ⟨v, ps, hrun, hv⟩ := ho1.lookup keyedV Tryz.underlying55 (zeroB wr) (zd := .held nilV) (zp := []) rfl (keyV k (by omega))
     obtain ⟨u, hu1, hu2⟩ := hD1.val _ hout
     rw [hu1] at hv
     rw [hR_inv hv] at hrun
     have hconv := (hu2.grownM HV2.out.roots.map HG6.out).conv
     have HO1 : Hid (wr.ownsMap (H := Value) Tryz.prog 3 hR a.rb (outR x.R (dropsZ h x.last (L.take n))).length D1) := Lib.hid ho1
     have HD1 := Lib.hid hD1
     have HDN := Lib.hid (dropsZ_no (ks := L.take n) hgo)
     have HSN := Lib.hid (staysZ_no (R := x.R) (ks := L.take n) hgo)
     have hsl := stays_len x.R h x.last (L.take n)
     rw [List.length_take] at hsl
     have hrl := rootOf_short (n := 1000) (fun e he => (HX.out.rts e he).1) k
     have hsz2 := HG6.out.size
     clear hD' hout hv hu1 hu2 ho1 hD1 hkr hkd hgo
     generalize rootOf x.R k = rt at *
     generalize staysZ x.R h x.last (L.take n) = SL at *
     go_wp2_with (at_builtin; refine wpList_appS rfl (.tmp 43) (.tmp 51) rfl w2.heap.size _ SL rfl (HS6.out.keep (Below.allocS (Below.refl _ _) _)) _ 0 1 1 [rt] rfl rfl (ssrc1 _ rt 9) (by omega) (by simp; omega) ?_; intro v5 w5 hr5 hb5)
     have hb15 := ((Below.allocS (Below.refl wr.heap.size wr) (Obj.cells #[.string ⟨List.toArray rt⟩] 9)).mono hsz2).trans hb5
     have hg5 := grown_belowB HG6.out hb15
     exact ⟨⟨n + 1, by go_num, by omega, by rw [HTK.out, HDN.out], Lib.hid (by rw [HTK.out, HSN.out]; exact hr5), Lib.hid (by rw [HTK.out, HDN.out]; exact ⟨D1, ownsMap_at HO1.out (hb15.block a.rb HV2.out.roots.lt), HD1.out⟩), Lib.hid hg5⟩, by simp [intOf]; omega⟩
    ·have d2 : (k == x.last) = false := by simpa using h2
     have d3 : (k != x.last) = true := by simpa using h2
     have hgo : goesB h x.last k = true := by simp [goesB, h2, h1]
     have hin := hkn hgo
     have htd := ho1.tidy keyedV
     have hD2 := hD1.del htd hin
     have HDN := Lib.hid (dropsZ_yes (ks := L.take n) hgo)
     have HSN := Lib.hid (staysZ_yes (R := x.R) (ks := L.take n) hgo)
     have hw1 : IntKind.i64.wrap (((dropsZ h x.last (L.take n)).length : Int) + 1) = ((dropsZ h x.last (L.take n)).length : Int) + 1 := by rw [IntKind.wrap_i64]; omega
     have hmapr : IsMap wr a.rb := by
      obtain ⟨es, cl, hm, _⟩ := ho1
      exact ⟨es, cl, hm⟩
     have HMR := Lib.hid hmapr
     have HD2 := Lib.hid hD2
     clear h1 h2 hkn hkin hkd hkr hgo hin hD1 hmapr hD2
     generalize dropsZ h x.last (L.take n) = DL at *
     obtain ⟨OL, hol⟩ : ∃ o, o = outR x.R DL := ⟨_, rfl⟩
     have HOL : Hid (outR x.R DL = OL) := Lib.hid hol.symm
     rw [← hol] at ho1 HD2
     clear hol
     go_wp2_with (first
      | (at_delete; refine wpList_delete_own _ rfl _ _ 55 3 rfl 59 keyedV Tryz.underlying55 hR a.rb _ D1 rfl ho1 _ _ rfl (keyV k (by omega)) ?_; intro w3 ho3 ht3)
      | fail)
     have hg3 := ht3.grown
     have ho4 := own_tightT ho3
     rw [HD2.out.size] at ho4
     exact ⟨⟨n + 1, by go_num, by omega, by rw [HTK.out, HDN.out, List.length_append]; simp, Lib.hid (by rw [HTK.out, HSN.out]; exact HS6.out.mm (MM.of_grown HMR.out hg3)), Lib.hid (by rw [HTK.out, HDN.out, outR_snoc, HOL.out]; exact ⟨_, ho4, HD2.out⟩), Lib.hid (grown_trans2 HG6.out hg3)⟩, by simp [intOf]; omega⟩
   ·have d1 : decide (k < h) = false := by simpa using h1
    have hgo : goesB h x.last k = false := by simp [goesB, h1]
    have hkd := hkd hgo
    clear h1 hkn hkin
    have hD' := hD1
    have hout := outR_mem.2 ⟨hkr, hkd⟩
    obtain ⟨v, ps, hrun, hv⟩ := ho1.lookup keyedV Tryz.underlying55 (zeroB wr) (zd := .held nilV) (zp := []) rfl (keyV k (by omega))
    obtain ⟨u, hu1, hu2⟩ := hD1.val _ hout
    rw [hu1] at hv
    rw [hR_inv hv] at hrun
    have hconv := (hu2.grownM HV2.out.roots.map HG6.out).conv
    have HO1 : Hid (wr.ownsMap (H := Value) Tryz.prog 3 hR a.rb (outR x.R (dropsZ h x.last (L.take n))).length D1) := Lib.hid ho1
    have HD1 := Lib.hid hD1
    have HDN := Lib.hid (dropsZ_no (ks := L.take n) hgo)
    have HSN := Lib.hid (staysZ_no (R := x.R) (ks := L.take n) hgo)
    have hsl := stays_len x.R h x.last (L.take n)
    rw [List.length_take] at hsl
    have hrl := rootOf_short (n := 1000) (fun e he => (HX.out.rts e he).1) k
    have hsz2 := HG6.out.size
    clear hD' hout hv hu1 hu2 ho1 hD1 hkr hkd hgo
    generalize rootOf x.R k = rt at *
    generalize staysZ x.R h x.last (L.take n) = SL at *
    go_wp2_with (at_builtin; refine wpList_appS rfl (.tmp 43) (.tmp 51) rfl w2.heap.size _ SL rfl (HS6.out.keep (Below.allocS (Below.refl _ _) _)) _ 0 1 1 [rt] rfl rfl (ssrc1 _ rt 9) (by omega) (by simp; omega) ?_; intro v5 w5 hr5 hb5)
    have hb15 := ((Below.allocS (Below.refl wr.heap.size wr) (Obj.cells #[.string ⟨List.toArray rt⟩] 9)).mono hsz2).trans hb5
    have hg5 := grown_belowB HG6.out hb15
    exact ⟨⟨n + 1, by go_num, by omega, by rw [HTK.out, HDN.out], Lib.hid (by rw [HTK.out, HSN.out]; exact hr5), Lib.hid (by rw [HTK.out, HDN.out]; exact ⟨D1, ownsMap_at HO1.out (hb15.block a.rb HV2.out.roots.lt), HD1.out⟩), Lib.hid hg5⟩, by simp [intOf]; omega⟩
  ·have e : n = L.length := by omega
   subst e
   have e0 : decide ((L.length : Int) < (L.length : Int)) = false := by simp
   rw [List.take_length] at HS6 HO6
   obtain ⟨D1, ho1, hD1⟩ := HO6.out
   rw [HOA.out] at ho1 hD1
   have HR6 : Hid (RtM wr base a.rb (stayR x h)) := Lib.hid ⟨D1, ho1, hD1.has, fun e he => (by obtain ⟨u, h1, h2⟩ := hD1.val e he; exact ⟨u, h1, h2.grownM HV2.out.roots.map HG6.out⟩), hD1.nodup, hD1.size⟩
   have HS := Lib.hid (HV2.out.sto.mm HMM.out (HG6.out.block a.sb HV2.out.sto.blt (by simpa using HV2.out.ne)))
   have hsl := stays_len x.R h x.last L
   have hll := HLL.out
   have HKP := Lib.hid (skeep_anyM base w2.heap.size a.sp a.sb x.T HX.out.short (by omega) u6 (staysZ x.R h x.last L) (by omega) (fun r hr => by
    obtain ⟨e, he, rfl⟩ := (HSM.out r).1 hr
    have := (HX.out.rts e (List.mem_filter.1 he).1).1
    unfold maxLen; omega) (fun k hk => by have := HX.out.keys k hk; unfold maxLen; omega) wr HS.out HS6.out)
   have hgc : x.R.length - (stayR x h).length = (dropsZ h x.last L).length := by have := HGC.out; omega
   have HGC2 := Lib.hid hgc
   have HBr := Lib.hid hBr
   have HTr : Hid (Typ wr a.v 57) := Lib.hid (HV2.out.typ.grownM HV2.out.roots.map HG6.out)
   have HMr : Hid (Mod [a.v, a.rb, a.sb] w wr) := Lib.hid (HMA.out.call (Mod.ofG HG6.out) (by simp))
   obtain ⟨pt2, hB2, hT2⟩ := HV2.out.blk
   have hptt : hB2.cell 2 = hB2.cell 2 := rfl
   have HTT : Hid (TAt wr pt2 x.new) := Lib.hid (hT2.mm HMM.out)
   have hpe : pt2 = pt := by
    have h1 := (hB2.mm HMM.out (by simp)).cell 2
    have h2 := hBr.cell 2
    rw [h1] at h2
    simpa using h2
   subst hpe
   clear hgc hsl hll ho1 hD1 hB2 hT2 hptt hBr HOA HO6 HS6 HLM HLN HLB
   rw [List.take_length]
   go_wp2_with fail
   refine HKP.out.mono ?_
   rintro e w5 ⟨I, hI, rfl, hS5, hg5⟩
   have HI := Lib.hid hI
   have HS5 := Lib.hid hS5
   have HG5 := Lib.hid hg5
   clear hI hS5 hg5 HKP
   go_wp2_with fail
   go_ret
   have hM5 := MM.of_grown HS.out.ismap HG5.out
   exact ⟨by rw [HGC2.out]; rfl, ⟨_, I, HSM.out, HI.out, ⟨HV2.out.hv, HV2.out.hr, ⟨pt2, HBr.out.mm hM5 (by simp), HTT.out.mm hM5⟩, HTr.out.grownM HS.out.ismap HG5.out, HS5.out, HR6.out.mm hM5 (HG5.out.block a.rb HR6.out.lt (by simpa using fun e => HV2.out.ne e.symm)), HV2.out.ne⟩⟩, HMr.out.call (Mod.ofG HG5.out) (by simp)⟩
end Go.Proofs.YtjppbomngnomhaaGreatDoor
namespace Go.Proofs.YtjppbomngnomhaaGreatDoor
open Go.RowKit
def wVa : List Int := [16843010, 543228161, 830472192, 0, 0, 0, 0, 0, 0, 0, 0, 0, 0, 0, 0, 72, 1192078140, 652283233, 2456315917, 2803175407, 958652771, 639885867, 2358490005, 3563530857, 3598475416, 45429122, 1669332696, 2014694819, 651412570, 3960441360, 4280880564, 630098230, 1994371326, 864058200, 3243432495, 969132445, 93890993, 2578345275, 4157628192, 2041114925, 1987688947, 1842650759, 3283640380, 2612526210, 3683196573, 458107113, 4030003498, 2340525366, 1895923236, 3766181646, 3171057280, 578813986, 2431538030, 3537826339, 3504187393, 409644460, 3706380216, 2822504131, 62252609, 345720545, 1505066292, 763472339, 854918389, 1670396288]
def sVa : List (List Int) := [[1779033703, 3144134277, 1013904242, 2773480762, 1359893119, 2600822924, 528734635, 1541459225],
 [4245260623, 1779033703, 3144134277, 1013904242, 2580079524, 1359893119, 2600822924, 528734635],
 [1423021689, 4245260623, 1779033703, 3144134277, 52307385, 2580079524, 1359893119, 2600822924],
 [3426634948, 1423021689, 4245260623, 1779033703, 1794461337, 52307385, 2580079524, 1359893119],
 [574032199, 3426634948, 1423021689, 4245260623, 67928430, 1794461337, 52307385, 2580079524],
 [210676437, 574032199, 3426634948, 1423021689, 1724864638, 67928430, 1794461337, 52307385],
 [916831753, 210676437, 574032199, 3426634948, 1343795403, 1724864638, 67928430, 1794461337],
 [3413348322, 916831753, 210676437, 574032199, 1173435372, 1343795403, 1724864638, 67928430],
 [1475004402, 3413348322, 916831753, 210676437, 1736765231, 1173435372, 1343795403, 1724864638],
 [2278556523, 1475004402, 3413348322, 916831753, 990074473, 1736765231, 1173435372, 1343795403],
 [897901902, 2278556523, 1475004402, 3413348322, 3918695216, 990074473, 1736765231, 1173435372],
 [3530454254, 897901902, 2278556523, 1475004402, 3516633028, 3918695216, 990074473, 1736765231],
 [272834992, 3530454254, 897901902, 2278556523, 640339763, 3516633028, 3918695216, 990074473],
 [3428133621, 272834992, 3530454254, 897901902, 1053310526, 640339763, 3516633028, 3918695216],
 [3976778777, 3428133621, 272834992, 3530454254, 3795163470, 1053310526, 640339763, 3516633028],
 [1631094774, 3976778777, 3428133621, 272834992, 1854447935, 3795163470, 1053310526, 640339763],
 [722093270, 1631094774, 3976778777, 3428133621, 139587028, 1854447935, 3795163470, 1053310526],
 [89522824, 722093270, 1631094774, 3976778777, 3812742876, 139587028, 1854447935, 3795163470],
 [2094163481, 89522824, 722093270, 1631094774, 4221675861, 3812742876, 139587028, 1854447935],
 [4114818513, 2094163481, 89522824, 722093270, 46287945, 4221675861, 3812742876, 139587028],
 [1469905838, 4114818513, 2094163481, 89522824, 2920084787, 46287945, 4221675861, 3812742876],
 [3186966395, 1469905838, 4114818513, 2094163481, 301834008, 2920084787, 46287945, 4221675861],
 [2718284221, 3186966395, 1469905838, 4114818513, 1755681115, 301834008, 2920084787, 46287945],
 [4057731774, 2718284221, 3186966395, 1469905838, 2080306182, 1755681115, 301834008, 2920084787],
 [3557652490, 4057731774, 2718284221, 3186966395, 537577073, 2080306182, 1755681115, 301834008],
 [703743700, 3557652490, 4057731774, 2718284221, 3072620632, 537577073, 2080306182, 1755681115],
 [1610647539, 703743700, 3557652490, 4057731774, 442720402, 3072620632, 537577073, 2080306182],
 [1925889348, 1610647539, 703743700, 3557652490, 522296504, 442720402, 3072620632, 537577073],
 [913793948, 1925889348, 1610647539, 703743700, 3445500675, 522296504, 442720402, 3072620632],
 [3280447261, 913793948, 1925889348, 1610647539, 2923768472, 3445500675, 522296504, 442720402],
 [1444148337, 3280447261, 913793948, 1925889348, 3971568212, 2923768472, 3445500675, 522296504],
 [668598493, 1444148337, 3280447261, 913793948, 2326613545, 3971568212, 2923768472, 3445500675],
 [1483514713, 668598493, 1444148337, 3280447261, 540252192, 2326613545, 3971568212, 2923768472],
 [193279933, 1483514713, 668598493, 1444148337, 2052435887, 540252192, 2326613545, 3971568212],
 [1233423487, 193279933, 1483514713, 668598493, 2817816363, 2052435887, 540252192, 2326613545],
 [1518614938, 1233423487, 193279933, 1483514713, 2502885597, 2817816363, 2052435887, 540252192],
 [757368336, 1518614938, 1233423487, 193279933, 4017567869, 2502885597, 2817816363, 2052435887],
 [2710615346, 757368336, 1518614938, 1233423487, 3116456129, 4017567869, 2502885597, 2817816363],
 [3500344691, 2710615346, 757368336, 1518614938, 2910646673, 3116456129, 4017567869, 2502885597],
 [3124897502, 3500344691, 2710615346, 757368336, 528633920, 2910646673, 3116456129, 4017567869],
 [3014250101, 3124897502, 3500344691, 2710615346, 2672692676, 528633920, 2910646673, 3116456129],
 [2335661555, 3014250101, 3124897502, 3500344691, 3248936081, 2672692676, 528633920, 2910646673],
 [4094718572, 2335661555, 3014250101, 3124897502, 963241982, 3248936081, 2672692676, 528633920],
 [2203708536, 4094718572, 2335661555, 3014250101, 2596316441, 963241982, 3248936081, 2672692676],
 [2828609570, 2203708536, 4094718572, 2335661555, 3029202499, 2596316441, 963241982, 3248936081],
 [3098539404, 2828609570, 2203708536, 4094718572, 339371700, 3029202499, 2596316441, 963241982],
 [3425511958, 3098539404, 2828609570, 2203708536, 3658196316, 339371700, 3029202499, 2596316441],
 [2423694413, 3425511958, 3098539404, 2828609570, 336459747, 3658196316, 339371700, 3029202499],
 [210688539, 2423694413, 3425511958, 3098539404, 2149073226, 336459747, 3658196316, 339371700],
 [3172973426, 210688539, 2423694413, 3425511958, 3238873117, 2149073226, 336459747, 3658196316],
 [87951861, 3172973426, 210688539, 2423694413, 722250971, 3238873117, 2149073226, 336459747],
 [4008939655, 87951861, 3172973426, 210688539, 2072713672, 722250971, 3238873117, 2149073226],
 [3200525876, 4008939655, 87951861, 3172973426, 1817303634, 2072713672, 722250971, 3238873117],
 [3736663927, 3200525876, 4008939655, 87951861, 3730212061, 1817303634, 2072713672, 722250971],
 [819768923, 3736663927, 3200525876, 4008939655, 2271013561, 3730212061, 1817303634, 2072713672],
 [1088965134, 819768923, 3736663927, 3200525876, 2762437230, 2271013561, 3730212061, 1817303634],
 [580401216, 1088965134, 819768923, 3736663927, 788742995, 2762437230, 2271013561, 3730212061],
 [1187470340, 580401216, 1088965134, 819768923, 1516375766, 788742995, 2762437230, 2271013561],
 [957855456, 1187470340, 580401216, 1088965134, 977804567, 1516375766, 788742995, 2762437230],
 [815850532, 957855456, 1187470340, 580401216, 1733446673, 977804567, 1516375766, 788742995],
 [1484679117, 815850532, 957855456, 1187470340, 2616557341, 1733446673, 977804567, 1516375766],
 [2712884218, 1484679117, 815850532, 957855456, 509172153, 2616557341, 1733446673, 977804567],
 [3003948926, 2712884218, 1484679117, 815850532, 3229334160, 509172153, 2616557341, 1733446673],
 [3094125068, 3003948926, 2712884218, 1484679117, 3531858107, 3229334160, 509172153, 2616557341],
 [1230397370, 3094125068, 3003948926, 2712884218, 2760987907, 3531858107, 3229334160, 509172153]]
def wVb : List Int := [16843010, 543228161, 847249408, 0, 0, 0, 0, 0, 0, 0, 0, 0, 0, 0, 0, 72, 1192078140, 650317217, 2473093133, 3882682234, 958636483, 594277402, 2765599653, 3415489121, 1448239294, 766943683, 1674214645, 3187032200, 2506679069, 2370955386, 3379453067, 973366384, 3769155883, 1552867068, 1927615040, 2595450411, 3205970520, 2064290719, 765625241, 3056142606, 4029910421, 3215605547, 1286160905, 3870123662, 947411416, 1950439008, 2778264965, 666355855, 1229312473, 2428580025, 1279411073, 4188436785, 845990279, 2871890361, 2638548778, 1353937187, 1988953864, 773626670, 3263406535, 2568846230, 613047034, 1186956474, 1158822487, 2699884489]
def sVb : List (List Int) := [[1779033703, 3144134277, 1013904242, 2773480762, 1359893119, 2600822924, 528734635, 1541459225],
 [4245260623, 1779033703, 3144134277, 1013904242, 2580079524, 1359893119, 2600822924, 528734635],
 [1423021689, 4245260623, 1779033703, 3144134277, 52307385, 2580079524, 1359893119, 2600822924],
 [3443412164, 1423021689, 4245260623, 1779033703, 1811238553, 52307385, 2580079524, 1359893119],
 [2742759755, 3443412164, 1423021689, 4245260623, 2215682414, 1811238553, 52307385, 2580079524],
 [3381669818, 2742759755, 3443412164, 1423021689, 1926736826, 2215682414, 1811238553, 52307385],
 [3017265226, 3381669818, 2742759755, 3443412164, 2959248560, 1926736826, 2215682414, 1811238553],
 [2915945251, 3017265226, 3381669818, 2742759755, 1700243002, 2959248560, 1926736826, 2215682414],
 [370332812, 2915945251, 3017265226, 3381669818, 2322966684, 1700243002, 2959248560, 1926736826],
 [2033309395, 370332812, 2915945251, 3017265226, 2687762582, 2322966684, 1700243002, 2959248560],
 [3343971488, 2033309395, 370332812, 2915945251, 2391407753, 2687762582, 2322966684, 1700243002],
 [738473928, 3343971488, 2033309395, 370332812, 2881530297, 2391407753, 2687762582, 2322966684],
 [2931145079, 738473928, 3343971488, 2033309395, 2987936224, 2881530297, 2391407753, 2687762582],
 [427387220, 2931145079, 738473928, 3343971488, 3986736381, 2987936224, 2881530297, 2391407753],
 [1067670963, 427387220, 2931145079, 738473928, 828593924, 3986736381, 2987936224, 2881530297],
 [460750961, 1067670963, 427387220, 2931145079, 1489066042, 828593924, 3986736381, 2987936224],
 [1919031806, 460750961, 1067670963, 427387220, 1716505151, 1489066042, 828593924, 3986736381],
 [514533167, 1919031806, 460750961, 1067670963, 565545450, 1716505151, 1489066042, 828593924],
 [2078350418, 514533167, 1919031806, 460750961, 1322514334, 565545450, 1716505151, 1489066042],
 [1922052528, 2078350418, 514533167, 1919031806, 453558960, 1322514334, 565545450, 1716505151],
 [4212123607, 1922052528, 2078350418, 514533167, 552563580, 453558960, 1322514334, 565545450],
 [989720889, 4212123607, 1922052528, 2078350418, 3729024048, 552563580, 453558960, 1322514334],
 [3500299648, 989720889, 4212123607, 1922052528, 2704486615, 3729024048, 552563580, 453558960],
 [2272136607, 3500299648, 989720889, 4212123607, 3990238862, 2704486615, 3729024048, 552563580],
 [3758188666, 2272136607, 3500299648, 989720889, 319894702, 3990238862, 2704486615, 3729024048],
 [3518282827, 3758188666, 2272136607, 3500299648, 1310305877, 319894702, 3990238862, 2704486615],
 [874518284, 3518282827, 3758188666, 2272136607, 2128327232, 1310305877, 319894702, 3990238862],
 [2587944982, 874518284, 3518282827, 3758188666, 4233700696, 2128327232, 1310305877, 319894702],
 [1759269258, 2587944982, 874518284, 3518282827, 3543681931, 4233700696, 2128327232, 1310305877],
 [146038444, 1759269258, 2587944982, 874518284, 990269126, 3543681931, 4233700696, 2128327232],
 [726068547, 146038444, 1759269258, 2587944982, 811256214, 990269126, 3543681931, 4233700696],
 [3949602430, 726068547, 146038444, 1759269258, 2706948928, 811256214, 990269126, 3543681931],
 [1875912446, 3949602430, 726068547, 146038444, 2341593271, 2706948928, 811256214, 990269126],
 [1288636144, 1875912446, 3949602430, 726068547, 4255428765, 2341593271, 2706948928, 811256214],
 [2204345406, 1288636144, 1875912446, 3949602430, 641074060, 4255428765, 2341593271, 2706948928],
 [3366792245, 2204345406, 1288636144, 1875912446, 1419256726, 641074060, 4255428765, 2341593271],
 [4267713948, 3366792245, 2204345406, 1288636144, 4262154016, 1419256726, 641074060, 4255428765],
 [915246042, 4267713948, 3366792245, 2204345406, 621929711, 4262154016, 1419256726, 641074060],
 [432105263, 915246042, 4267713948, 3366792245, 3105496977, 621929711, 4262154016, 1419256726],
 [3728772132, 432105263, 915246042, 4267713948, 1838703892, 3105496977, 621929711, 4262154016],
 [571553022, 3728772132, 432105263, 915246042, 2905180408, 1838703892, 3105496977, 621929711],
 [3832330982, 571553022, 3728772132, 432105263, 2501016916, 2905180408, 1838703892, 3105496977],
 [1130848890, 3832330982, 571553022, 3728772132, 2585818742, 2501016916, 2905180408, 1838703892],
 [3070200745, 1130848890, 3832330982, 571553022, 341359143, 2585818742, 2501016916, 2905180408],
 [2525057483, 3070200745, 1130848890, 3832330982, 54913042, 341359143, 2585818742, 2501016916],
 [635110868, 2525057483, 3070200745, 1130848890, 77901485, 54913042, 341359143, 2585818742],
 [735616172, 635110868, 2525057483, 3070200745, 1822703139, 77901485, 54913042, 341359143],
 [2271529015, 735616172, 635110868, 2525057483, 2292544724, 1822703139, 77901485, 54913042],
 [1026907741, 2271529015, 735616172, 635110868, 2023246910, 2292544724, 1822703139, 77901485],
 [1049742268, 1026907741, 2271529015, 735616172, 3424266890, 2023246910, 2292544724, 1822703139],
 [813180579, 1049742268, 1026907741, 2271529015, 128942711, 3424266890, 2023246910, 2292544724],
 [324551562, 813180579, 1049742268, 1026907741, 1156494940, 128942711, 3424266890, 2023246910],
 [760151102, 324551562, 813180579, 1049742268, 1050899588, 1156494940, 128942711, 3424266890],
 [2445502293, 760151102, 324551562, 813180579, 1303027354, 1050899588, 1156494940, 128942711],
 [3797396980, 2445502293, 760151102, 324551562, 2923719664, 1303027354, 1050899588, 1156494940],
 [2748966811, 3797396980, 2445502293, 760151102, 207950696, 2923719664, 1303027354, 1050899588],
 [2627109872, 2748966811, 3797396980, 2445502293, 1918668467, 207950696, 2923719664, 1303027354],
 [7477804, 2627109872, 2748966811, 3797396980, 2360300375, 1918668467, 207950696, 2923719664],
 [1386457339, 7477804, 2627109872, 2748966811, 2601819677, 2360300375, 1918668467, 207950696],
 [2853280641, 1386457339, 7477804, 2627109872, 526869947, 2601819677, 2360300375, 1918668467],
 [261397264, 2853280641, 1386457339, 7477804, 3104854931, 526869947, 2601819677, 2360300375],
 [2773671025, 261397264, 2853280641, 1386457339, 304758958, 3104854931, 526869947, 2601819677],
 [3436029640, 2773671025, 261397264, 2853280641, 2931317139, 304758958, 3104854931, 526869947],
 [423776641, 3436029640, 2773671025, 261397264, 26288582, 2931317139, 304758958, 3104854931],
 [1809894003, 423776641, 3436029640, 2773671025, 722745003, 26288582, 2931317139, 304758958]]
theorem wVa_ok : okW (blkB (padP [1, 1, 1, 2, 32, 97, 1, 1, 49]) 0) wVa = true := by decide +kernel
theorem rVa_ok : okR firstW wVa sVa = true := by decide +kernel
theorem oneVa : (padP [1, 1, 1, 2, 32, 97, 1, 1, 49]).length / 64 = 1 := by decide +kernel
theorem wVb_ok : okW (blkB (padP [1, 1, 1, 2, 32, 97, 1, 1, 50]) 0) wVb = true := by decide +kernel
theorem rVb_ok : okR firstW wVb sVb = true := by decide +kernel
theorem oneVb : (padP [1, 1, 1, 2, 32, 97, 1, 1, 50]).length / 64 = 1 := by decide +kernel
theorem sums_differV : tagP 1 [1, 1, 2, 32, 97, 1, 1, 49] ≠ tagP 1 [1, 1, 2, 32, 97, 1, 1, 50] := by
 intro h
 have h5 := sum_byte [1, 1, 1, 2, 32, 97, 1, 1, 49] wVa sVa oneVa wVa_ok rVa_ok
 have h6 := sum_byte [1, 1, 1, 2, 32, 97, 1, 1, 50] wVb sVb oneVb wVb_ok rVb_ok
 have h1 : (sumP [1, 1, 1, 2, 32, 97, 1, 1, 49]).getD 0 0 = (sumP [1, 1, 1, 2, 32, 97, 1, 1, 50]).getD 0 0 := congrArg (fun l => l.getD 0 0) h
 rw [h5, h6] at h1
 revert h1
 decide +kernel
end Go.Proofs.YtjppbomngnomhaaGreatDoor
namespace Go.Proofs.YtjppbomngnomhaaGreatDoor
open Go.RowKit Pl
theorem save_short {T : List Ent} (h : ShortE T) : ∀ (l : List Bs), (∀ x ∈ l, x.length ≤ 1000) → ShortE (saveT T l) := by
 intro l
 induction l generalizing T with
 | nil => intro _; exact h
 | cons x r ih =>
  intro hl
  refine ih ?_ (fun y hy => hl y (by simp [hy]))
  unfold Go.Proofs.YtjppbomngnomhaaGreatDoor.putT
  split
  ·exact h
  ·intro e he
   rcases List.mem_append.1 he with he | he
   ·exact h e he
   ·rw [List.mem_singleton] at he
    subst he
    exact hl x (by simp)
theorem save_keys {T : List Ent} {n : Nat} (hn : 32 ≤ n) (h : ∀ k ∈ keysE T, k.length ≤ n) : ∀ (l : List Bs), ∀ k ∈ keysE (saveT T l), k.length ≤ n := by
 intro l
 induction l generalizing T with
 | nil => exact h
 | cons x r ih =>
  refine ih ?_
  unfold Go.Proofs.YtjppbomngnomhaaGreatDoor.putT
  split
  ·exact h
  ·intro k hk
   unfold keysE at hk
   rw [List.map_append, List.mem_append] at hk
   rcases hk with hk | hk
   ·exact h k hk
   ·simp only [List.map_cons, List.map_nil, List.mem_singleton] at hk
    subst hk
    rw [tagP_len]; exact hn
theorem VsOk.commit {x : Vs} (hx : VsOk x) (h : Int) (l : List It) (hll : x.L.length + l.length ≤ 1000) : VsOk (commitV x h l).1 := by
 unfold commitV
 split
 ·exact hx
 ·rename_i h1
  split
  ·exact hx
  ·rename_i h2
   split
   ·exact hx
   ·rename_i h3
    obtain ⟨g1, g2⟩ := chgs_good l x.new x.L hx.gt (by simpa using h3)
    refine ⟨g1, save_short hx.short _ (fun y hy => (nodes_small _ 16 (by omega) g1.rep.ok g1.can y hy).1), save_keys (by omega) hx.keys _, fun e he => ?_, by show -1 ≤ h ∧ h ≤ 1048576; omega, hx.below⟩
    show e.2.length ≤ 1000 ∧ 0 ≤ e.1 ∧ e.1 ≤ h
    rcases List.mem_append.1 he with he | he
    ·have := hx.rts e he
     exact ⟨this.1, this.2.1, by omega⟩
    ·rw [List.mem_singleton] at he
     subst he
     exact ⟨sum_short g1, by show 0 ≤ h; omega, Int.le_refl _⟩
theorem VsOk.prune {x : Vs} (hx : VsOk x) (h : Int) (hh : h ≤ 9223372036854775807) (I : List Bs) : VsOk ⟨keepT x.T I, stayR x h, x.new, x.last, max x.below h, x.L⟩ := by
 refine ⟨hx.gt, fun e he => hx.short e (List.mem_filter.1 he).1, fun k hk => ?_, fun e he => hx.rts e (List.mem_filter.1 he).1, hx.last, ?_⟩
 ·unfold keysE keepT at hk
  obtain ⟨e, he, rfl⟩ := List.mem_map.1 hk
  exact hx.keys _ (List.mem_map.2 ⟨e, (List.mem_filter.1 he).1, rfl⟩)
 ·have := hx.below
  show 0 ≤ max x.below h ∧ max x.below h ≤ 9223372036854775807
  omega
def tA : Tri := .leaf [6, 1] [49]
def tB : Tri := .leaf [6, 1] [50]
def eA : Bs := [1, 1, 2, 32, 97, 1, 1, 49]
def eB : Bs := [1, 1, 2, 32, 97, 1, 1, 50]
def sA : Bs := tagP 1 eA
def sB : Bs := tagP 1 eB
theorem sAB : sA ≠ sB := sums_differV
theorem txA : textT tA = eA := by decide +kernel
theorem txB : textT tB = eB := by decide +kernel
theorem ckA : chkT tA = true := by decide +kernel
theorem ckB : chkT tB = true := by decide +kernel
theorem smA : sumT tA = sA := by rw [sum_text (by simp [tA]) ckA, txA]; rfl
theorem smB : sumT tB = sB := by rw [sum_text (by simp [tB]) ckB, txB]; rfl
def xA : Vs := ⟨[(sA, eA)], [(1, sA)], tA, 1, 0, [([97], [49])]⟩
def xB : Vs := ⟨[(sA, eA), (sB, eB)], [(1, sA), (2, sB)], tB, 2, 0, [([97], [50])]⟩
def xC : Vs := ⟨[(sB, eB)], [(2, sB)], tB, 2, 2, [([97], [50])]⟩
theorem ndA : nodesT tA = [eA] := by show [textT tA] = _; rw [txA]
theorem ndB : nodesT tB = [eB] := by show [textT tB] = _; rw [txB]
theorem chA : chgsR .nil [] [([97], [49])] = ((tA, [([97], [49])]), 0) := by
 rw [chgsR_cons, if_pos (by decide +kernel)]
 rfl
theorem chB : chgsR tA [([97], [49])] [([97], [50])] = ((tB, [([97], [50])]), 0) := by
 rw [chgsR_cons, if_pos (by decide +kernel)]
 rfl
theorem ex_a : commitV vs0 1 [([97], [49])] = (xA, (sA, 0)) := by
 unfold commitV
 rw [if_neg (by decide), if_neg (by decide)]
 show (if (chgsR .nil [] [([97], [49])]).2 ≠ 0 then _ else _) = _
 have h1 : vs0.new = .nil := rfl
 have h2 : vs0.L = [] := rfl
 simp only [h1, h2, chA]
 rw [if_neg (by simp), smA, ndA]
 simp [vs0, saveT, Go.Proofs.YtjppbomngnomhaaGreatDoor.putT, keysE, xA, sA]
theorem sB_def : tagP 1 eB = sB := by unfold sB; rfl
theorem save_new (T : List Ent) (t k : Bs) (hk : tagP 1 t = k) (hn : k ∉ keysE T) : saveT T [t] = T ++ [(k, t)] := by
 subst hk
 simp only [saveT, List.foldl_cons, List.foldl_nil]
 unfold Go.Proofs.YtjppbomngnomhaaGreatDoor.putT
 rw [if_neg hn]
theorem commit_yes (x : Vs) (h : Int) (l : List It) (t : Tri) (L : List It) (h1 : ¬ (h < 0 ∨ 1048576 < h)) (h2 : ¬ (h ≤ x.last ∨ h < x.below)) (h3 : chgsR x.new x.L l = ((t, L), 0)) : commitV x h l = (⟨saveT x.T (nodesT t), x.R ++ [(h, sumT t)], t, h, x.below, L⟩, (sumT t, 0)) := by
 unfold commitV
 rw [if_neg h1, if_neg h2, h3, if_neg (by simp)]
theorem notin_one {a b : Bs} (e : Bs) (h : a ≠ b) : b ∉ keysE [(a, e)] := by simp [keysE, h.symm]
theorem ex_b : commitV xA 2 [([97], [50])] = (xB, (sB, 0)) := by
 rw [commit_yes xA 2 _ tB [([97], [50])] (by decide) (by simp [xA]) chB, smB, ndB]
 have h : saveT xA.T [eB] = xA.T ++ [(sB, eB)] := save_new _ _ _ sB_def (notin_one eA sAB)
 rw [h]
 simp only [xA, xB, List.cons_append, List.nil_append]
theorem gtA : GTr tA [([97], [49])] := by
 have := GTr.nil.put (k := [97]) (v := [49]) (by decide)
 exact this
theorem gtB : GTr tB [([97], [50])] := by
 have := gtA.put (k := [97]) (v := [50]) (by decide)
 exact this
theorem sA_ne : sA ≠ [] := fun e => by
 have : sA.length = 32 := tagP_len _ _
 rw [e] at this; cases this
theorem sB_ne : sB ≠ [] := fun e => by
 have : sB.length = 32 := tagP_len _ _
 rw [e] at this; cases this
theorem ex_at1 : atV xB 1 = (tA, 0) := by
 have h1 : rootV xB 1 = (sA, 0) := rfl
 unfold atV
 rw [h1, if_neg (by simp)]
 unfold loadR
 rw [if_neg sA_ne]
 have h2 := load_root (T := xB.T) gtA.rep gtA.can (by simp [tA]) (by simp) gtA.keys (fun x hx => by
  rw [ndA, List.mem_singleton] at hx
  subst hx
  show getT xB.T sA = _
  simp [getT, xB])
 rw [smA] at h2
 rw [h2]
theorem keep_ex {S I : List Bs} (hS : ∀ r, r ∈ S ↔ ∃ e ∈ stayR xB 2, e.2 = r) (hI : ∀ s, s ∈ I ↔ Rch xB.T S s) : keepT xB.T I = [(sB, eB)] := by
 have hst : stayR xB 2 = [(2, sB)] := by
  unfold stayR
  rw [show xB.R = [(1, sA), (2, sB)] from rfl]
  rw [List.filter_cons, if_neg (by simp [goesB, xB]), List.filter_cons, if_pos (by simp [goesB, xB])]
  rfl
 have hS' : ∀ r, r ∈ S ↔ r = sB := fun r => by
  rw [hS, hst]
  simp
  exact ⟨fun h => h.symm, fun h => h.symm⟩
 have hg : getT xB.T sB = some eB := by
  unfold getT
  rw [show xB.T = [(sA, eA), (sB, eB)] from rfl, List.find?_cons_of_neg (by simp [sAB]), List.find?_cons_of_pos (by simp)]
  rfl
 have hkid : kidsT xB.T sB = [] := by
  have h1 := node_at (T := xB.T) (t := tB) (by simp [tB]) ckB (by rw [txB]; exact hg)
  rw [smB] at h1
  unfold kidsT
  rw [h1]
  decide +kernel
 have hr : ∀ s, Rch xB.T S s → s = sB := by
  intro s h
  induction h with
  | start h1 _ => exact (hS' _).1 h1
  | step _ h2 _ ih => rw [ih, hkid] at h2; cases h2
 have hin : sB ∈ I := (hI sB).2 (.start ((hS' sB).2 rfl) (by simp [keysE, xB]))
 have hout : sA ∉ I := fun h => sAB (hr _ ((hI sA).1 h))
 unfold keepT
 rw [show xB.T = [(sA, eA), (sB, eB)] from rfl, List.filter_cons, if_neg (by simpa using hout), List.filter_cons, if_pos (by simpa using hin)]
 rfl
theorem stay_ex : stayR xB 2 = [(2, sB)] := by
 unfold stayR
 rw [show xB.R = [(1, sA), (2, sB)] from rfl]
 rw [List.filter_cons, if_neg (by simp [goesB, xB]), List.filter_cons, if_pos (by simp [goesB, xB])]
 rfl
theorem ex_at2 : atV xC 1 = (.nil, 120) := by
 have h1 : rootV xC 1 = ([], 120) := rfl
 unfold atV
 rw [h1, if_pos (by simp)]
theorem ex_at3 : atV xC 2 = (tB, 0) := by
 have h1 : rootV xC 2 = (sB, 0) := rfl
 unfold atV
 rw [h1, if_neg (by simp)]
 unfold loadR
 rw [if_neg sB_ne]
 have h2 := load_root (T := xC.T) gtB.rep gtB.can (by simp [tB]) (by simp) gtB.keys (fun x hx => by
  rw [ndB, List.mem_singleton] at hx
  subst hx
  show getT xC.T sB = _
  simp [getT, xC])
 rw [smB] at h2
 rw [h2]
end Go.Proofs.YtjppbomngnomhaaGreatDoor
