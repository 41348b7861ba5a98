/- Cmp. -/
import Derived.Test.YthkpmlfaddlieaaGreatDoorMs25
set_option linter.unnecessarySimpa false
set_option linter.unusedSimpArgs false
set_option linter.unusedVariables false
set_option maxRecDepth 100000
set_option maxHeartbeats 32000000
namespace Go.Proofs.YthkpmlfaddlieaaGreatDoor
open Go.RowKit Go.Shelf Pl
theorem accC_zero {T : Hd} {S : List (Bs × Int)} {ht : Int} {h : Hd} {nx : List (Bs × Int)} {d : Bs} {ns : List Bs} {L : List Sg} (hc : accC T S ht h nx d ns L = 0) : fineH h = true ∧ ns.length ≤ 1000000 := by
 unfold accC at hc
 split at hc
 ·exact absurd hc (by decide)
 ·split at hc
  ·exact absurd hc (by decide)
  ·rename_i htl
   simp only [Bool.not_eq_false] at htl
   unfold tlP caP at htl
   simp only [Bool.and_eq_true] at htl
   refine ⟨htl.1.2.2.2,?_⟩
   repeat' split at hc
   all_goals first
    | exact absurd hc (by decide)
    | exact absurd hc (by assumption)
    | (have := (good_shortW hc).1; omega)
theorem ev_one0 : ∀ u ∈ evcs (.slice none 0 0) hdZ (.slice none 0 0) hdZ (.slice none 0 0) [] (.slice none 0 0) [] (.slice none 0 0),u.oneCell' = true := by simp [evcs,hcs,Value.oneCell']
theorem goodC_ne (tag : Int) (l : List (Bs × Int)) (d : Bs) (ns : List Bs) (L : List Sg) : goodC tag l d ns L ≠ 370 := by
 unfold goodC firstC goodIn
 repeat' split
 all_goals decide
theorem accC_ne (T : Hd) (S : List (Bs × Int)) (ht : Int) (h : Hd) (nx : List (Bs × Int)) (d : Bs) (ns : List Bs) (L : List Sg) : accC T S ht h nx d ns L ≠ 370 := by
 have hg := goodC_ne 6 S d ns L
 unfold accC plP
 repeat' split
 all_goals first | decide | exact hg
def cmpC (cA cB : Int) (hA hB : Hd) : Int := if cA ≠ 0 then cA else if cB ≠ 0 then cB else if hA.height = hB.height ∧ dgH hA = dgH hB then 0 else if hA.height ≠ hB.height then 4 else 370
def CmpO (W : World) (S : List (Bs × Int)) (hA hB : Hd) (dA dB : Bs) (nA nB : List Bs) (c : Int) (e : Ending) (w' : World) : Prop :=
 Below W.heap.size W w' ∧ (c = 0 → ∃ a1 c1 m1 n1 k1,e = .returned (.tuple #[.agg (trv hA (.slice a1 hA.skips.length c1) (.slice m1 n1 k1) 0).toArray,.agg (evcs (.slice none 0 0) hdZ (.slice none 0 0) hdZ (.slice none 0 0) [] (.slice none 0 0) [] (.slice none 0 0)).toArray,.int .i64 0]) ∧ SS w' (.slice a1 hA.skips.length c1) hA.skips) ∧
 (c = 370 → ∃ ms a1 c1 a2 c2 a3 c3 a4 c4,e = .returned (.tuple #[.agg (trv hdZ (.slice none 0 0) (.slice none 0 0) 0).toArray,.agg (evcs ms hA (.slice a1 hA.skips.length c1) hB (.slice a2 hB.skips.length c2) dA (.slice a3 nA.length c3) dB (.slice a4 nB.length c4)).toArray,.int .i64 370]) ∧
  MS w' ms S ∧ SS w' (.slice a1 hA.skips.length c1) hA.skips ∧ SS w' (.slice a2 hB.skips.length c2) hB.skips ∧ SS w' (.slice a3 nA.length c3) nA ∧ SS w' (.slice a4 nB.length c4) nB) ∧
 (c ≠ 0 → c ≠ 370 → e = .returned (.tuple #[.agg (trv hdZ (.slice none 0 0) (.slice none 0 0) 0).toArray,.agg (evcs (.slice none 0 0) hdZ (.slice none 0 0) hdZ (.slice none 0 0) [] (.slice none 0 0) [] (.slice none 0 0)).toArray,.int .i64 c]))
theorem CmpO.no {W w' : World} {S : List (Bs × Int)} {hA hB : Hd} {dA dB : Bs} {nA nB : List Bs} {c c' : Int} (hb : Below W.heap.size W w') (hc : c' = c) (h0 : c ≠ 0) (h3 : c ≠ 370) :
  CmpO W S hA hB dA dB nA nB c' (.returned (.tuple #[.agg (trv hdZ (.slice none 0 0) (.slice none 0 0) 0).toArray,.agg (evcs (.slice none 0 0) hdZ (.slice none 0 0) hdZ (.slice none 0 0) [] (.slice none 0 0) [] (.slice none 0 0)).toArray,.int .i64 c])) w' := by
 subst hc
 exact ⟨hb,fun h => absurd h h0,fun h => absurd h h3,fun _ _ => rfl⟩
theorem own_low {h : Hd} {d : Bs} {ns : List Bs} {v : Value} {W : World} {B : Nat} (hc : Calls Tryz.prog 54 #[v] W fun e w' => ∃ a1 c1 a2 c2,e = .returned (.agg (sdcs h (.slice a1 h.skips.length c1) d (.slice a2 ns.length c2)).toArray) ∧
   SRow w' W.heap.size (.slice a1 h.skips.length c1) h.skips ∧ SRow w' W.heap.size (.slice a2 ns.length c2) ns ∧ Below W.heap.size W w') (hB : B ≤ W.heap.size) : Calls Tryz.prog 54 #[v] W fun e w' => ∃ a1 c1 a2 c2,e = .returned (.agg (sdcs h (.slice a1 h.skips.length c1) d (.slice a2 ns.length c2)).toArray) ∧
   SRow w' B (.slice a1 h.skips.length c1) h.skips ∧ SRow w' B (.slice a2 ns.length c2) ns ∧ Below W.heap.size W w' :=
 hc.mono fun e w' hx => by
  obtain ⟨a1,c1,a2,c2,h1,h2,h3,h4⟩ := hx
  exact ⟨a1,c1,a2,c2,h1,h2.low hB,h3.low hB,h4⟩
theorem compare_any (T : Hd) (S : List (Bs × Int)) (tk tm : Value) (hta htb : Int) (hA hB : Hd) (ska skb : Value) (nxa nxb : List (Bs × Int)) (da db : Bs) (nsa nsb : List Bs) (hva nva sga hvb nvb sgb : Value) (base p : Nat) (L : List Sg) (w : World)
  (hTK : SS w tk T.skips) (hTM : MS w tm S) (hRA : AnsR w hA ska nxa nsa hva nva sga) (hRB : AnsR w hB skb nxb nsb hvb nvb sgb) (hxa : nxa.length ≤ 1000000) (hxb : nxb.length ≤ 1000000) (hSl : S.length ≤ 1000000) (hTb : Tab w base p L) (hKT : KT w) :
  Calls Tryz.prog 20 #[.agg (trv T tk tm 0).toArray,.agg (acs hta hva nva da sga).toArray,.agg (acs htb hvb nvb db sgb).toArray,.int .i64 0,.pointer (some ⟨p,0,none⟩)] w
   (CmpO w S hA hB da db nsa nsb (cmpC (accC T S hta hA nxa da nsa L) (accC T S htb hB nxb db nsb L) hA hB)) := by
 obtain ⟨ka,kc,rfl⟩ := hTK.form
 obtain ⟨ma,mc,rfl⟩ := hTM.form
 obtain ⟨⟨k1,rfl,_⟩,_,hsga,_⟩ := id hRA
 obtain ⟨⟨k2,rfl,_⟩,_,hsgb,_⟩ := id hRB
 obtain ⟨sa,sc,rfl⟩ := hsga.form
 obtain ⟨ta,tc,rfl⟩ := hsgb.form
 have hb0 : Below w.heap.size w (((((w.alloc (.cells (trv T (.slice ka T.skips.length kc) (.slice ma S.length mc) 0).toArray 67)).alloc (.cells (acs hta (.slice (some ⟨k1,0,none⟩) 1 1) nva da (.slice sa nsa.length sc)).toArray 42)).alloc (.cells (acs htb (.slice (some ⟨k2,0,none⟩) 1 1) nvb db (.slice ta nsb.length tc)).toArray 42)).alloc (.cells (trv hdZ (.slice none 0 0) (.slice none 0 0) 0).toArray 67)).alloc (.cells (evcs (.slice none 0 0) hdZ (.slice none 0 0) hdZ (.slice none 0 0) [] (.slice none 0 0) [] (.slice none 0 0)).toArray 54)) := Below.allocS (Below.allocS (Below.allocS (Below.allocS (Below.allocS (Below.refl _ _) _) _) _) _) _
 have B5 : Blk (((((w.alloc (.cells (trv T (.slice ka T.skips.length kc) (.slice ma S.length mc) 0).toArray 67)).alloc (.cells (acs hta (.slice (some ⟨k1,0,none⟩) 1 1) nva da (.slice sa nsa.length sc)).toArray 42)).alloc (.cells (acs htb (.slice (some ⟨k2,0,none⟩) 1 1) nvb db (.slice ta nsb.length tc)).toArray 42)).alloc (.cells (trv hdZ (.slice none 0 0) (.slice none 0 0) 0).toArray 67)).alloc (.cells (evcs (.slice none 0 0) hdZ (.slice none 0 0) hdZ (.slice none 0 0) [] (.slice none 0 0) [] (.slice none 0 0)).toArray 54)) w.heap.size (trv T (.slice ka T.skips.length kc) (.slice ma S.length mc) 0).toArray := ((((Blk.new _ _ _).alloc _).alloc _).alloc _).alloc _
 have B6 : Blk (((((w.alloc (.cells (trv T (.slice ka T.skips.length kc) (.slice ma S.length mc) 0).toArray 67)).alloc (.cells (acs hta (.slice (some ⟨k1,0,none⟩) 1 1) nva da (.slice sa nsa.length sc)).toArray 42)).alloc (.cells (acs htb (.slice (some ⟨k2,0,none⟩) 1 1) nvb db (.slice ta nsb.length tc)).toArray 42)).alloc (.cells (trv hdZ (.slice none 0 0) (.slice none 0 0) 0).toArray 67)).alloc (.cells (evcs (.slice none 0 0) hdZ (.slice none 0 0) hdZ (.slice none 0 0) [] (.slice none 0 0) [] (.slice none 0 0)).toArray 54)) (w.heap.size + 1) (acs hta (.slice (some ⟨k1,0,none⟩) 1 1) nva da (.slice sa nsa.length sc)).toArray := (((Blk.new' (by simp)).alloc _).alloc _).alloc _
 have B7 : Blk (((((w.alloc (.cells (trv T (.slice ka T.skips.length kc) (.slice ma S.length mc) 0).toArray 67)).alloc (.cells (acs hta (.slice (some ⟨k1,0,none⟩) 1 1) nva da (.slice sa nsa.length sc)).toArray 42)).alloc (.cells (acs htb (.slice (some ⟨k2,0,none⟩) 1 1) nvb db (.slice ta nsb.length tc)).toArray 42)).alloc (.cells (trv hdZ (.slice none 0 0) (.slice none 0 0) 0).toArray 67)).alloc (.cells (evcs (.slice none 0 0) hdZ (.slice none 0 0) hdZ (.slice none 0 0) [] (.slice none 0 0) [] (.slice none 0 0)).toArray 54)) (w.heap.size + 1 + 1) (acs htb (.slice (some ⟨k2,0,none⟩) 1 1) nvb db (.slice ta nsb.length tc)).toArray := ((Blk.new' (by simp)).alloc _).alloc _
 have B10 : Blk (((((w.alloc (.cells (trv T (.slice ka T.skips.length kc) (.slice ma S.length mc) 0).toArray 67)).alloc (.cells (acs hta (.slice (some ⟨k1,0,none⟩) 1 1) nva da (.slice sa nsa.length sc)).toArray 42)).alloc (.cells (acs htb (.slice (some ⟨k2,0,none⟩) 1 1) nvb db (.slice ta nsb.length tc)).toArray 42)).alloc (.cells (trv hdZ (.slice none 0 0) (.slice none 0 0) 0).toArray 67)).alloc (.cells (evcs (.slice none 0 0) hdZ (.slice none 0 0) hdZ (.slice none 0 0) [] (.slice none 0 0) [] (.slice none 0 0)).toArray 54)) (w.heap.size + 1 + 1 + 1) (trv hdZ (.slice none 0 0) (.slice none 0 0) 0).toArray := (Blk.new' (by simp)).alloc _
 have B11 : Blk (((((w.alloc (.cells (trv T (.slice ka T.skips.length kc) (.slice ma S.length mc) 0).toArray 67)).alloc (.cells (acs hta (.slice (some ⟨k1,0,none⟩) 1 1) nva da (.slice sa nsa.length sc)).toArray 42)).alloc (.cells (acs htb (.slice (some ⟨k2,0,none⟩) 1 1) nvb db (.slice ta nsb.length tc)).toArray 42)).alloc (.cells (trv hdZ (.slice none 0 0) (.slice none 0 0) 0).toArray 67)).alloc (.cells (evcs (.slice none 0 0) hdZ (.slice none 0 0) hdZ (.slice none 0 0) [] (.slice none 0 0) [] (.slice none 0 0)).toArray 54)) (w.heap.size + 1 + 1 + 1 + 1) (evcs (.slice none 0 0) hdZ (.slice none 0 0) hdZ (.slice none 0 0) [] (.slice none 0 0) [] (.slice none 0 0)).toArray := Blk.new' (by simp)
 have T10 : Typ (((((w.alloc (.cells (trv T (.slice ka T.skips.length kc) (.slice ma S.length mc) 0).toArray 67)).alloc (.cells (acs hta (.slice (some ⟨k1,0,none⟩) 1 1) nva da (.slice sa nsa.length sc)).toArray 42)).alloc (.cells (acs htb (.slice (some ⟨k2,0,none⟩) 1 1) nvb db (.slice ta nsb.length tc)).toArray 42)).alloc (.cells (trv hdZ (.slice none 0 0) (.slice none 0 0) 0).toArray 67)).alloc (.cells (evcs (.slice none 0 0) hdZ (.slice none 0 0) hdZ (.slice none 0 0) [] (.slice none 0 0) [] (.slice none 0 0)).toArray 54)) (w.heap.size + 1 + 1 + 1) 67 := (Typ.new' (by simp)).keep (Below.allocS (Below.refl _ _) _)
 have T11 : Typ (((((w.alloc (.cells (trv T (.slice ka T.skips.length kc) (.slice ma S.length mc) 0).toArray 67)).alloc (.cells (acs hta (.slice (some ⟨k1,0,none⟩) 1 1) nva da (.slice sa nsa.length sc)).toArray 42)).alloc (.cells (acs htb (.slice (some ⟨k2,0,none⟩) 1 1) nvb db (.slice ta nsb.length tc)).toArray 42)).alloc (.cells (trv hdZ (.slice none 0 0) (.slice none 0 0) 0).toArray 67)).alloc (.cells (evcs (.slice none 0 0) hdZ (.slice none 0 0) hdZ (.slice none 0 0) [] (.slice none 0 0) [] (.slice none 0 0)).toArray 54)) (w.heap.size + 1 + 1 + 1 + 1) 54 := Typ.new' (by simp)
 have hs0 : w.heap.size + 5 ≤ ((((((w.alloc (.cells (trv T (.slice ka T.skips.length kc) (.slice ma S.length mc) 0).toArray 67)).alloc (.cells (acs hta (.slice (some ⟨k1,0,none⟩) 1 1) nva da (.slice sa nsa.length sc)).toArray 42)).alloc (.cells (acs htb (.slice (some ⟨k2,0,none⟩) 1 1) nvb db (.slice ta nsb.length tc)).toArray 42)).alloc (.cells (trv hdZ (.slice none 0 0) (.slice none 0 0) 0).toArray 67)).alloc (.cells (evcs (.slice none 0 0) hdZ (.slice none 0 0) hdZ (.slice none 0 0) [] (.slice none 0 0) [] (.slice none 0 0)).toArray 54))).heap.size := by simp
 have q1 := fun W (hW : Below w.heap.size w W) => acc_any T S (.slice ka T.skips.length kc) (.slice ma S.length mc) hta hA ska nxa da nsa (.slice (some ⟨k1,0,none⟩) 1 1) nva (.slice sa nsa.length sc) base p L W (hTK.keep hW) (hTM.keep hW) (hRA.keep hW) hxa (hTb.keep hW) (hKT.keep hW)
 have q2 := fun W (hW : Below w.heap.size w W) => acc_any T S (.slice ka T.skips.length kc) (.slice ma S.length mc) htb hB skb nxb db nsb (.slice (some ⟨k2,0,none⟩) 1 1) nvb (.slice ta nsb.length tc) base p L W (hTK.keep hW) (hTM.keep hW) (hRB.keep hW) hxb (hTb.keep hW) (hKT.keep hW)
 have HTM := Lib.hid hTM
 have HSA := Lib.hid hsga
 have HSB := Lib.hid hsgb
 have HKT := Lib.hid hKT
 have HCA := Lib.hid (accC_ne T S hta hA nxa da nsa L)
 have HCB := Lib.hid (accC_ne T S htb hB nxb db nsb L)
 clear hTK hTM hRA hRB hTb hKT hsga hsgb
 have FA : Hid (accC T S hta hA nxa da nsa L = 0 → fineH hA = true ∧ nsa.length ≤ 1000000) := Lib.hid (fun h => accC_zero h)
 have FB : Hid (accC T S htb hB nxb db nsb L = 0 → fineH hB = true ∧ nsb.length ≤ 1000000) := Lib.hid (fun h => accC_zero h)
 generalize accC T S hta hA nxa da nsa L = cA at *
 generalize accC T S htb hB nxb db nsb L = cB at *
 go_enter Tryz.func20,Tryz.ntmps20
 have r5 := B5.range
 have r6 := B6.range
 go_wp2_with (first
  | (refine wpList_rowR row_tr rfl (.tmp 5) rfl rfl (vs := trv T (.slice ka T.skips.length kc) (.slice ma S.length mc) 0) rfl r5 ?_)
  | (refine wpList_rowR row_ans rfl (.tmp 6) rfl rfl (vs := acs hta (.slice (some ⟨k1,0,none⟩) 1 1) nva da (.slice sa nsa.length sc)) rfl r6 ?_)
  | fail)
 refine (q1 _ hb0).mono ?_
 rintro e w1 ⟨hb,hne,heq⟩
 have hb1 := hb0.trans (hb.mono hb0.size)
 have B5 := B5.keep hb
 have B6 := B6.keep hb
 have B7 := B7.keep hb
 have B10 := B10.keep hb
 have B11 := B11.keep hb
 have T10 := T10.keep hb
 have T11 := T11.keep hb
 have hs1 := Nat.le_trans hs0 hb.size
 clear q1 hb hb0 r5 r6
 have hx1 : Below w1.heap.size w1 (w1.alloc (.cells (trv hdZ (.slice none 0 0) (.slice none 0 0) 0).toArray 67)) := Below.allocS (Below.refl _ _) _
 by_cases hcA : cA = 0
 rotate_left
 ·have he := hne hcA
  subst he
  have g1 : (cA != 0) = true := by simpa using hcA
  have HC := Lib.hid hcA
  clear hne heq hcA q2
  go_upto_region 3 with (first
   | (refine wpList_rowStoreT row_tr rfl rfl (.tmp 13) (.tmp 24) rfl rfl (vs := trv hdZ (.slice none 0 0) (.slice none 0 0) 0) rfl rfl (trv_one _ _ _ _ _ _ _ _) (us := trv hdZ (.slice none 0 0) (.slice none 0 0) 0) rfl (Blk.new' rfl) (Typ.new' rfl) ?_; intro w2 N13 T13 m2)
   | fail)
  have hb := Below.mod hx1 m2 (by simp) (by simp)
  have hb2 := hb1.trans (hb.mono hb1.size)
  have B10 := B10.keep hb
  have B11 := B11.keep hb
  have T10 := T10.keep hb
  have T11 := T11.keep hb
  have hs2 := Nat.le_trans hs1 hb.size
  go_wp2_with (first
   | (refine wpList_rowStoreT row_tr rfl rfl (.tmp 10) (.tmp 28) rfl rfl (vs := trv hdZ (.slice none 0 0) (.slice none 0 0) 0) rfl rfl (trv_one _ _ _ _ _ _ _ _) (us := trv hdZ (.slice none 0 0) (.slice none 0 0) 0) rfl B10 T10 ?_; intro wy Ny Ty my)
   | (refine wpList_rowStoreT row_ev rfl rfl (.tmp 11) (.tmp 29) rfl rfl (vs := evcs (.slice none 0 0) hdZ (.slice none 0 0) hdZ (.slice none 0 0) [] (.slice none 0 0) [] (.slice none 0 0)) rfl rfl ev_one0 (us := evcs (.slice none 0 0) hdZ (.slice none 0 0) hdZ (.slice none 0 0) [] (.slice none 0 0) [] (.slice none 0 0)) rfl (B11.mod my (by simp)) (T11.mod my (by simp)) ?_; intro wz Nz Tz mz)
   | fail)
  refine bodyPost_ret (results_c2 rfl _ _ _ _ _ _ rfl rfl (row_loadVar row_tr _ rfl (Ny.mod mz (by simp))) (row_loadVar row_ev _ rfl Nz)) rfl ?_
  have hfin := Below.mod (Below.mod hb2 my hb2.size (by simp; omega)) mz (by have h1 := hb2.size; have h2 := my.size; omega) (by simp; omega)
  exact CmpO.no hfin (by unfold cmpC; rw [if_pos HC.out]) HC.out HCA.out
 subst hcA
 obtain ⟨skA,msA,he,hskA,hmsA⟩ := heq rfl
 have hskA := hskA.low hs0
 clear hs0
 subst he
 obtain ⟨a1,c1,e1⟩ := hskA.form
 obtain ⟨a2,c2,e2⟩ := hmsA.form
 subst e1 e2
 have hfA := FA.out rfl
 clear hne heq
 go_upto_region 4 with (first
  | (refine wpList_rowStoreT row_tr rfl rfl (.tmp 13) (.tmp 24) rfl rfl (vs := trv hA (.slice a1 hA.skips.length c1) (.slice a2 nxa.length c2) 0) rfl rfl (trv_one _ _ _ _ _ _ _ _) (us := trv hdZ (.slice none 0 0) (.slice none 0 0) 0) rfl (Blk.new' rfl) (Typ.new' rfl) ?_; intro w2 N13 T13 m2)
  | fail)
 have hb := Below.mod hx1 m2 (by simp) (by simp)
 have hb2 := hb1.trans (hb.mono hb1.size)
 have B5 := B5.keep hb
 have B6 := B6.keep hb
 have B7 := B7.keep hb
 have B10 := B10.keep hb
 have B11 := B11.keep hb
 have T10 := T10.keep hb
 have T11 := T11.keep hb
 have hs2 := Nat.le_trans hs1 hb.size
 have hskA := hskA.keep hb
 generalize hk13 : w1.heap.size = k13 at *
 have hk13b : w.heap.size + 5 ≤ k13 := by omega
 have r5 := B5.range
 have r7 := B7.range
 clear hx1 m2 hb hb1 hmsA hs1 hk13
 go_wp2_with (first
  | (refine wpList_rowR row_tr rfl (.tmp 5) rfl rfl (vs := trv T (.slice ka T.skips.length kc) (.slice ma S.length mc) 0) rfl r5 ?_)
  | (refine wpList_rowR row_ans rfl (.tmp 7) rfl rfl (vs := acs htb (.slice (some ⟨k2,0,none⟩) 1 1) nvb db (.slice ta nsb.length tc)) rfl r7 ?_)
  | fail)
 refine (q2 _ hb2).mono ?_
 rintro e w3 ⟨hb,hne,heq⟩
 have hb3 := hb2.trans (hb.mono hb2.size)
 have B5 := B5.keep hb
 have B6 := B6.keep hb
 have B7 := B7.keep hb
 have B10 := B10.keep hb
 have B11 := B11.keep hb
 have T10 := T10.keep hb
 have T11 := T11.keep hb
 have N13 := N13.keep hb
 have hs3 := Nat.le_trans hs2 hb.size
 have hskA := hskA.keep hb
 clear q2 hb hb2 r5 r7 hs2
 have hx3 : Below w3.heap.size w3 (w3.alloc (.cells (trv hdZ (.slice none 0 0) (.slice none 0 0) 0).toArray 67)) := Below.allocS (Below.refl _ _) _
 by_cases hcB : cB = 0
 rotate_left
 ·have he := hne hcB
  subst he
  have g1 : (cB != 0) = true := by simpa using hcB
  have HC := Lib.hid hcB
  clear hne heq hcB
  go_upto_region 6 with (first
   | (refine wpList_rowStoreT row_tr rfl rfl (.tmp 15) (.tmp 37) rfl rfl (vs := trv hdZ (.slice none 0 0) (.slice none 0 0) 0) rfl rfl (trv_one _ _ _ _ _ _ _ _) (us := trv hdZ (.slice none 0 0) (.slice none 0 0) 0) rfl (Blk.new' rfl) (Typ.new' rfl) ?_; intro w4 N15 T15 m4)
   | fail)
  have hb := Below.mod hx3 m4 (by simp) (by simp)
  have hb4 := hb3.trans (hb.mono hb3.size)
  have B10 := B10.keep hb
  have B11 := B11.keep hb
  have T10 := T10.keep hb
  have T11 := T11.keep hb
  have hs4 := Nat.le_trans hs3 hb.size
  go_wp2_with (first
   | (refine wpList_rowStoreT row_tr rfl rfl (.tmp 10) (.tmp 41) rfl rfl (vs := trv hdZ (.slice none 0 0) (.slice none 0 0) 0) rfl rfl (trv_one _ _ _ _ _ _ _ _) (us := trv hdZ (.slice none 0 0) (.slice none 0 0) 0) rfl B10 T10 ?_; intro wy Ny Ty my)
   | (refine wpList_rowStoreT row_ev rfl rfl (.tmp 11) (.tmp 42) rfl rfl (vs := evcs (.slice none 0 0) hdZ (.slice none 0 0) hdZ (.slice none 0 0) [] (.slice none 0 0) [] (.slice none 0 0)) rfl rfl ev_one0 (us := evcs (.slice none 0 0) hdZ (.slice none 0 0) hdZ (.slice none 0 0) [] (.slice none 0 0) [] (.slice none 0 0)) rfl (B11.mod my (by simp)) (T11.mod my (by simp)) ?_; intro wz Nz Tz mz)
   | fail)
  refine bodyPost_ret (results_c2 rfl _ _ _ _ _ _ rfl rfl (row_loadVar row_tr _ rfl (Ny.mod mz (by simp))) (row_loadVar row_ev _ rfl Nz)) rfl ?_
  have hfin := Below.mod (Below.mod hb4 my hb4.size (by simp; omega)) mz (by have h1 := hb4.size; have h2 := my.size; omega) (by simp; omega)
  exact CmpO.no hfin (by unfold cmpC; rw [if_neg (by simp),if_pos HC.out]) HC.out HCB.out
 subst hcB
 obtain ⟨skB,msB,he,hskB,hmsB⟩ := heq rfl
 subst he
 obtain ⟨a3,c3,e1⟩ := hskB.form
 obtain ⟨a4,c4,e2⟩ := hmsB.form
 subst e1 e2
 have hfB := FB.out rfl
 clear hne heq
 go_upto_region 7 with (first
  | (refine wpList_rowStoreT row_tr rfl rfl (.tmp 15) (.tmp 37) rfl rfl (vs := trv hB (.slice a3 hB.skips.length c3) (.slice a4 nxb.length c4) 0) rfl rfl (trv_one _ _ _ _ _ _ _ _) (us := trv hdZ (.slice none 0 0) (.slice none 0 0) 0) rfl (Blk.new' rfl) (Typ.new' rfl) ?_; intro w4 N15 T15 m4)
  | fail)
 have hb := Below.mod hx3 m4 (by simp) (by simp)
 have hb4 := hb3.trans (hb.mono hb3.size)
 have B5 := B5.keep hb
 have B6 := B6.keep hb
 have B7 := B7.keep hb
 have B10 := B10.keep hb
 have B11 := B11.keep hb
 have T10 := T10.keep hb
 have T11 := T11.keep hb
 have N13 := N13.keep hb
 have hs4 := Nat.le_trans hs3 hb.size
 have hskA := hskA.keep hb
 have hskB := hskB.keep hb
 generalize hk15 : w3.heap.size = k15 at *
 have hk15b : w.heap.size + 5 ≤ k15 := by omega
 clear hx3 m4 hb hb3 hmsB hs3 hk15
 have SKA := Lib.hid hskA
 have SKB := Lib.hid hskB.ss
 have rA := trv_head N13
 have rB := trv_head N15
 have rc6 : w4.rangeAt (w.heap.size + 1) 5 [.string ⟨da.toArray⟩,.slice sa nsa.length sc] := fun j v hj => by
  rcases j with _ | _ | j
  ·exact (B6.cell 5).trans hj
  ·exact (B6.cell 6).trans hj
  ·cases hj
 have rc7 : w4.rangeAt (w.heap.size + 1 + 1) 5 [.string ⟨db.toArray⟩,.slice ta nsb.length tc] := fun j v hj => by
  rcases j with _ | _ | j
  ·exact (B7.cell 5).trans hj
  ·exact (B7.cell 6).trans hj
  ·cases hj
 have l6 := B6.lt
 have l7 := B7.lt
 have l13 := N13.lt
 have l15 := N15.lt
 have hlA : hA.skips.length ≤ 1000000 := by have h1 := (fine_parts hfA.1).skl; have h2 := linksF_len hA.height; omega
 have hlB : hB.skips.length ≤ 1000000 := by have h1 := (fine_parts hfB.1).skl; have h2 := linksF_len hB.height; omega
 have qa := fun W (hW : Below w4.heap.size w4 W) => own_any hA a1 sa c1 sc da nsa W (SKA.out.ss.keep hW) (HSA.out.keep (hb4.trans (hW.mono hb4.size))) hlA hfA.2
 have qb := fun W (hW : Below w4.heap.size w4 W) => own_any hB a3 ta c3 tc db nsb W (SKB.out.keep hW) (HSB.out.keep (hb4.trans (hW.mono hb4.size))) hlB hfB.2
 have HFA := Lib.hid hfA
 have HFB := Lib.hid hfB
 clear hskA hskB hfA hfB hlA hlB
 go_cut [16,17] (fun s16 s17 wx => ∃ (k16 k17 : Nat) (xa ya ua va : Option Addr) (xc yc uc vc : Nat),s16 = .pointer (some ⟨k16,0,none⟩) ∧ s17 = .pointer (some ⟨k17,0,none⟩) ∧ w4.heap.size ≤ k16 ∧ w4.heap.size ≤ k17 ∧ Hid (Blk wx k16 (sdcs hA (.slice xa hA.skips.length xc) da (.slice ya nsa.length yc)).toArray) ∧ Hid (Blk wx k17 (sdcs hB (.slice ua hB.skips.length uc) db (.slice va nsb.length vc)).toArray) ∧ Hid (SRow wx w4.heap.size (.slice xa hA.skips.length xc) hA.skips) ∧ Hid (SRow wx w4.heap.size (.slice ya nsa.length yc) nsa) ∧ Hid (SRow wx w4.heap.size (.slice ua hB.skips.length uc) hB.skips) ∧ Hid (SRow wx w4.heap.size (.slice va nsb.length vc) nsb) ∧ Hid (Below w4.heap.size w4 wx))
 case first =>
  refine wpH_startB (w4.heap.size) (by kernel_rfl) (fun hS => ?_)
  (refine hP 0 ?_ ⟨some 44,.fieldAddr 67 (.tmp 13) 0,0,"",#[],none⟩ hS ?_ ?_; rotate_left; focus (intro w; go_simp; try with_reducible rfl))
  try simp only [pna,pnb,pnc,pnd,pne]
  refine wpH_load 1 (.agg (hcs hA (.slice a1 hA.skips.length c1)).toArray) (oi := ⟨some 45,.load 48 (.tmp 44),48,"witness.go:46",#[⟨0,.data⟩],none⟩) rfl (by kernel_rfl) (by kernel_rfl) (by kernel_rfl) (by rfl) hS (fun _ _ _ h => h) (fun w' hb2 => exec_rowR row_head (.tmp 44) rfl rfl rfl (rg_keep rA l13 hb2)) ?_
  try simp only [pna,pnb,pnc,pnd,pne]
  (refine hP 2 ?_ ⟨some 46,.fieldAddr 42 (.tmp 6) 5,0,"",#[],none⟩ hS ?_ ?_; rotate_left; focus (intro w; go_simp; try with_reducible rfl))
  try simp only [pna,pnb,pnc,pnd,pne]
  refine wpH_load 3 (.agg #[.string ⟨da.toArray⟩,.slice sa nsa.length sc]) (oi := ⟨some 47,.load 37 (.tmp 46),37,"witness.go:46",#[⟨2,.data⟩],none⟩) rfl (by kernel_rfl) (by kernel_rfl) (by kernel_rfl) (by rfl) hS (fun _ _ _ h => h) (fun w' hb2 => exec_rowR row_cert (.tmp 46) rfl rfl (vs := [.string ⟨da.toArray⟩,.slice sa nsa.length sc]) rfl (rg_keep rc6 l6 hb2)) ?_
  try simp only [pna,pnb,pnc,pnd,pne]
  refine wpH_load 4 (.agg (sdcs hA (.slice a1 hA.skips.length c1) da (.slice sa nsa.length sc)).toArray) (oi := ⟨some 48,.build 93 #[(0,.tmp 45),(1,.tmp 47)],93,"witness.go:46",#[⟨1,.data⟩,⟨3,.data⟩],none⟩) rfl (by kernel_rfl) (by kernel_rfl) (by kernel_rfl) (by rfl) hS (fun _ _ _ h => h) (fun w' hb2 => (by kernel_rfl)) ?_
  try simp only [pna,pnb,pnc,pnd,pne]
  (refine hP 6 ?_ ⟨some 50,.fieldAddr 67 (.tmp 15) 0,0,"",#[],none⟩ hS ?_ ?_; rotate_left; focus (intro w; go_simp; try with_reducible rfl))
  try simp only [pna,pnb,pnc,pnd,pne]
  refine wpH_load 7 (.agg (hcs hB (.slice a3 hB.skips.length c3)).toArray) (oi := ⟨some 51,.load 48 (.tmp 50),48,"witness.go:46",#[⟨6,.data⟩],none⟩) rfl (by kernel_rfl) (by kernel_rfl) (by kernel_rfl) (by rfl) hS (fun _ _ _ h => h) (fun w' hb2 => exec_rowR row_head (.tmp 50) rfl rfl rfl (rg_keep rB l15 hb2)) ?_
  try simp only [pna,pnb,pnc,pnd,pne]
  (refine hP 8 ?_ ⟨some 52,.fieldAddr 42 (.tmp 7) 5,0,"",#[],none⟩ hS ?_ ?_; rotate_left; focus (intro w; go_simp; try with_reducible rfl))
  try simp only [pna,pnb,pnc,pnd,pne]
  refine wpH_load 9 (.agg #[.string ⟨db.toArray⟩,.slice ta nsb.length tc]) (oi := ⟨some 53,.load 37 (.tmp 52),37,"witness.go:46",#[⟨8,.data⟩],none⟩) rfl (by kernel_rfl) (by kernel_rfl) (by kernel_rfl) (by rfl) hS (fun _ _ _ h => h) (fun w' hb2 => exec_rowR row_cert (.tmp 52) rfl rfl (vs := [.string ⟨db.toArray⟩,.slice ta nsb.length tc]) rfl (rg_keep rc7 l7 hb2)) ?_
  try simp only [pna,pnb,pnc,pnd,pne]
  refine wpH_load 10 (.agg (sdcs hB (.slice a3 hB.skips.length c3) db (.slice ta nsb.length tc)).toArray) (oi := ⟨some 54,.build 93 #[(0,.tmp 51),(1,.tmp 53)],93,"witness.go:46",#[⟨7,.data⟩,⟨9,.data⟩],none⟩) rfl (by kernel_rfl) (by kernel_rfl) (by kernel_rfl) (by rfl) hS (fun _ _ _ h => h) (fun w' hb2 => (by kernel_rfl)) ?_
  try simp only [pna,pnb,pnc,pnd,pne]
  refine wpAnyH_all (rs := [5,12,13]) (by kernel_rfl) (by simp) (fun jj hjj => ?_)
  simp only [List.mem_cons,List.not_mem_nil,or_false] at hjj
  rcases hjj with rfl | rfl | rfl
  refine wpO_call (oi := ⟨some 49,.call { callee := .value (.func 54),args := #[.tmp 48],argTypes := #[93] },93,"witness.go:46",#[⟨4,.data⟩],none⟩) rfl (by rfl) (own_low (qa _ hS) hS.size) ?_ ?_
  ·(go_simp; try rfl)
  rintro e w' ⟨xa,xc,ya,yc,rfl,R1,R2,hbx⟩
  refine ⟨_,rfl,hS.trans (hbx.mono hS.size),?_⟩
  replace hS := hS.trans (hbx.mono hS.size)
  try have K16 := K16.keep hbx
  try have T16 := T16.keep hbx
  try have K17 := K17.keep hbx
  try have T17 := T17.keep hbx
  try simp only [pna,pnb,pnc,pnd,pne]
  refine wpAnyH_all (rs := [11,12,13]) (by kernel_rfl) (by simp) (fun jj hjj => ?_)
  simp only [List.mem_cons,List.not_mem_nil,or_false] at hjj
  rcases hjj with rfl | rfl | rfl
  refine wpO_call (oi := ⟨some 55,.call { callee := .value (.func 54),args := #[.tmp 54],argTypes := #[93] },93,"witness.go:46",#[⟨10,.data⟩,⟨5,.chain⟩],none⟩) rfl (by rfl) (own_low (qb _ hS) hS.size) ?_ ?_
  ·(go_simp; try rfl)
  rintro e w' ⟨ua,uc,va,vc,rfl,R3,R4,hbx⟩
  refine ⟨_,rfl,hS.trans (hbx.mono hS.size),?_⟩
  replace hS := hS.trans (hbx.mono hS.size)
  have R1 := R1.keep hbx
  have R2 := R2.keep hbx
  try have K16 := K16.keep hbx
  try have T16 := T16.keep hbx
  try have K17 := K17.keep hbx
  try have T17 := T17.keep hbx
  try simp only [pna,pnb,pnc,pnd,pne]
  refine wpAnyH_all (rs := [12,13]) (by kernel_rfl) (by simp) (fun jj hjj => ?_)
  simp only [List.mem_cons,List.not_mem_nil,or_false] at hjj
  rcases hjj with rfl | rfl
  refine wpO_op (oi := ⟨some 16,.alloc 93,0,"witness.go:46",#[],none⟩) rfl (by rfl) ?_
  refine wp_newK 93 (sdcs hdZ (.slice none 0 0) [] (.slice none 0 0)).toArray (fun k => .pointer (some ⟨k,0,none⟩)) (fun w => by kernel_rfl) ?_
  intro k16 w' hk16 hh16 hl16 hb16
  have hz16 := hS.size
  refine ⟨hS.trans (hb16.mono hS.size),?_⟩
  replace hS := hS.trans (hb16.mono hS.size)
  have K16 := Blk.of_heap hh16 hl16
  have T16 : Typ w' k16 93 := ⟨_,hh16⟩
  have hk16b : w4.heap.size ≤ k16 := Nat.le_trans hz16 hk16
  try have hne : k16 ≠ k17 := (fun e => by have := K17.lt; omega)
  try have K17 := K17.keep hb16
  try have T17 := T17.keep hb16
  try have R1 := R1.keep hb16
  try have R2 := R2.keep hb16
  try have R3 := R3.keep hb16
  try have R4 := R4.keep hb16
  try simp only [pna,pnb,pnc,pnd,pne]
  refine wpH_op 13 (oi := ⟨some 17,.alloc 93,0,"witness.go:46",#[],none⟩) rfl (by kernel_rfl) (by rfl) ?_
  refine wp_newK 93 (sdcs hdZ (.slice none 0 0) [] (.slice none 0 0)).toArray (fun k => .pointer (some ⟨k,0,none⟩)) (fun w => by kernel_rfl) ?_
  intro k17 w' hk17 hh17 hl17 hb17
  have hz17 := hS.size
  refine ⟨hS.trans (hb17.mono hS.size),?_⟩
  replace hS := hS.trans (hb17.mono hS.size)
  have K17 := Blk.of_heap hh17 hl17
  have T17 : Typ w' k17 93 := ⟨_,hh17⟩
  have hk17b : w4.heap.size ≤ k17 := Nat.le_trans hz17 hk17
  try have hne : k16 ≠ k17 := (fun e => by have := K16.lt; omega)
  try have K16 := K16.keep hb17
  try have T16 := T16.keep hb17
  try have R1 := R1.keep hb17
  try have R2 := R2.keep hb17
  try have R3 := R3.keep hb17
  try have R4 := R4.keep hb17
  try simp only [pna,pnb,pnc,pnd,pne]
  refine wpH_op 14 (oi := ⟨none,.store 93 (.tmp 16) (.tmp 49),0,"witness.go:46",#[⟨12,.data⟩,⟨5,.data⟩,⟨11,.chain⟩,⟨0,.phase⟩,⟨1,.phase⟩,⟨2,.phase⟩,⟨3,.phase⟩,⟨4,.phase⟩,⟨5,.phase⟩,{ on := 6,ground := .textOnly Departure.lateStores },{ on := 7,ground := .textOnly Departure.lateStores },{ on := 8,ground := .textOnly Departure.lateStores },{ on := 9,ground := .textOnly Departure.lateStores },{ on := 10,ground := .textOnly Departure.lateStores },{ on := 11,ground := .textOnly Departure.lateStoresUnsure },⟨12,.phase⟩,⟨13,.phase⟩],none⟩) rfl (by kernel_rfl) (by rfl) ?_
  refine wp_rowST row_side (.tmp 16) (.tmp 49) rfl rfl (vs := sdcs hA (.slice xa hA.skips.length xc) da (.slice ya nsa.length yc)) rfl rfl (sdcs_oneO _ _ _ _ _ _ _ _) (us := sdcs hdZ (.slice none 0 0) [] (.slice none 0 0)) rfl K16 T16 ?_
  intro w' K16' T16' m16
  have hzz := hS.size
  refine ⟨Below.mod hS m16 hzz (by simpa using hk16b),?_⟩
  replace hS := Below.mod hS m16 hzz (by simpa using hk16b)
  have K17 := K17.mod m16 (by simpa using hne.symm)
  have R1 := R1.modT m16 T16 (by decide)
  have R2 := R2.modT m16 T16 (by decide)
  have R3 := R3.modT m16 T16 (by decide)
  have R4 := R4.modT m16 T16 (by decide)
  have T17 := T17.mod m16 (by simpa using hne.symm)
  have K16 := K16'
  have T16 := T16'
  try simp only [pna,pnb,pnc,pnd,pne]
  refine wpH_op 15 (oi := ⟨none,.store 93 (.tmp 17) (.tmp 55),0,"witness.go:46",#[⟨13,.data⟩,⟨11,.data⟩,⟨14,.chain⟩,⟨0,.phase⟩,⟨1,.phase⟩,⟨2,.phase⟩,⟨3,.phase⟩,⟨4,.phase⟩,⟨5,.phase⟩,⟨6,.phase⟩,⟨7,.phase⟩,⟨8,.phase⟩,⟨9,.phase⟩,⟨10,.phase⟩,⟨11,.phase⟩,⟨12,.phase⟩,⟨13,.phase⟩,⟨14,.phase⟩],none⟩) rfl (by kernel_rfl) (by rfl) ?_
  refine wp_rowST row_side (.tmp 17) (.tmp 55) rfl rfl (vs := sdcs hB (.slice ua hB.skips.length uc) db (.slice va nsb.length vc)) rfl rfl (sdcs_oneO _ _ _ _ _ _ _ _) (us := sdcs hdZ (.slice none 0 0) [] (.slice none 0 0)) rfl K17 T17 ?_
  intro w' K17' T17' m17
  have hzz := hS.size
  refine ⟨Below.mod hS m17 hzz (by simpa using hk17b),?_⟩
  replace hS := Below.mod hS m17 hzz (by simpa using hk17b)
  have K16 := K16.mod m17 (by simpa using hne)
  have R1 := R1.modT m17 T17 (by decide)
  have R2 := R2.modT m17 T17 (by decide)
  have R3 := R3.modT m17 T17 (by decide)
  have R4 := R4.modT m17 T17 (by decide)
  have K17 := K17'
  try simp only [pna,pnb,pnc,pnd,pne]
  refine wpAnyH_done (by kernel_rfl) ?_ _
  go_wp2_with fail
  go_meet
  exact ⟨k16,k17,xa,ya,ua,va,xc,yc,uc,vc,rfl,rfl,hk16b,hk17b,Lib.hid K16,Lib.hid K17,Lib.hid R1,Lib.hid R2,Lib.hid R3,Lib.hid R4,Lib.hid hS⟩
  refine wpO_op (oi := ⟨some 17,.alloc 93,0,"witness.go:46",#[],none⟩) rfl (by rfl) ?_
  refine wp_newK 93 (sdcs hdZ (.slice none 0 0) [] (.slice none 0 0)).toArray (fun k => .pointer (some ⟨k,0,none⟩)) (fun w => by kernel_rfl) ?_
  intro k17 w' hk17 hh17 hl17 hb17
  have hz17 := hS.size
  refine ⟨hS.trans (hb17.mono hS.size),?_⟩
  replace hS := hS.trans (hb17.mono hS.size)
  have K17 := Blk.of_heap hh17 hl17
  have T17 : Typ w' k17 93 := ⟨_,hh17⟩
  have hk17b : w4.heap.size ≤ k17 := Nat.le_trans hz17 hk17
  try have hne : k16 ≠ k17 := (fun e => by have := K16.lt; omega)
  try have K16 := K16.keep hb17
  try have T16 := T16.keep hb17
  try have R1 := R1.keep hb17
  try have R2 := R2.keep hb17
  try have R3 := R3.keep hb17
  try have R4 := R4.keep hb17
  try simp only [pna,pnb,pnc,pnd,pne]
  refine wpH_op 12 (oi := ⟨some 16,.alloc 93,0,"witness.go:46",#[],none⟩) rfl (by kernel_rfl) (by rfl) ?_
  refine wp_newK 93 (sdcs hdZ (.slice none 0 0) [] (.slice none 0 0)).toArray (fun k => .pointer (some ⟨k,0,none⟩)) (fun w => by kernel_rfl) ?_
  intro k16 w' hk16 hh16 hl16 hb16
  have hz16 := hS.size
  refine ⟨hS.trans (hb16.mono hS.size),?_⟩
  replace hS := hS.trans (hb16.mono hS.size)
  have K16 := Blk.of_heap hh16 hl16
  have T16 : Typ w' k16 93 := ⟨_,hh16⟩
  have hk16b : w4.heap.size ≤ k16 := Nat.le_trans hz16 hk16
  try have hne : k16 ≠ k17 := (fun e => by have := K17.lt; omega)
  try have K17 := K17.keep hb16
  try have T17 := T17.keep hb16
  try have R1 := R1.keep hb16
  try have R2 := R2.keep hb16
  try have R3 := R3.keep hb16
  try have R4 := R4.keep hb16
  try simp only [pna,pnb,pnc,pnd,pne]
  refine wpH_op 14 (oi := ⟨none,.store 93 (.tmp 16) (.tmp 49),0,"witness.go:46",#[⟨12,.data⟩,⟨5,.data⟩,⟨11,.chain⟩,⟨0,.phase⟩,⟨1,.phase⟩,⟨2,.phase⟩,⟨3,.phase⟩,⟨4,.phase⟩,⟨5,.phase⟩,{ on := 6,ground := .textOnly Departure.lateStores },{ on := 7,ground := .textOnly Departure.lateStores },{ on := 8,ground := .textOnly Departure.lateStores },{ on := 9,ground := .textOnly Departure.lateStores },{ on := 10,ground := .textOnly Departure.lateStores },{ on := 11,ground := .textOnly Departure.lateStoresUnsure },⟨12,.phase⟩,⟨13,.phase⟩],none⟩) rfl (by kernel_rfl) (by rfl) ?_
  refine wp_rowST row_side (.tmp 16) (.tmp 49) rfl rfl (vs := sdcs hA (.slice xa hA.skips.length xc) da (.slice ya nsa.length yc)) rfl rfl (sdcs_oneO _ _ _ _ _ _ _ _) (us := sdcs hdZ (.slice none 0 0) [] (.slice none 0 0)) rfl K16 T16 ?_
  intro w' K16' T16' m16
  have hzz := hS.size
  refine ⟨Below.mod hS m16 hzz (by simpa using hk16b),?_⟩
  replace hS := Below.mod hS m16 hzz (by simpa using hk16b)
  have K17 := K17.mod m16 (by simpa using hne.symm)
  have R1 := R1.modT m16 T16 (by decide)
  have R2 := R2.modT m16 T16 (by decide)
  have R3 := R3.modT m16 T16 (by decide)
  have R4 := R4.modT m16 T16 (by decide)
  have T17 := T17.mod m16 (by simpa using hne.symm)
  have K16 := K16'
  have T16 := T16'
  try simp only [pna,pnb,pnc,pnd,pne]
  refine wpH_op 15 (oi := ⟨none,.store 93 (.tmp 17) (.tmp 55),0,"witness.go:46",#[⟨13,.data⟩,⟨11,.data⟩,⟨14,.chain⟩,⟨0,.phase⟩,⟨1,.phase⟩,⟨2,.phase⟩,⟨3,.phase⟩,⟨4,.phase⟩,⟨5,.phase⟩,⟨6,.phase⟩,⟨7,.phase⟩,⟨8,.phase⟩,⟨9,.phase⟩,⟨10,.phase⟩,⟨11,.phase⟩,⟨12,.phase⟩,⟨13,.phase⟩,⟨14,.phase⟩],none⟩) rfl (by kernel_rfl) (by rfl) ?_
  refine wp_rowST row_side (.tmp 17) (.tmp 55) rfl rfl (vs := sdcs hB (.slice ua hB.skips.length uc) db (.slice va nsb.length vc)) rfl rfl (sdcs_oneO _ _ _ _ _ _ _ _) (us := sdcs hdZ (.slice none 0 0) [] (.slice none 0 0)) rfl K17 T17 ?_
  intro w' K17' T17' m17
  have hzz := hS.size
  refine ⟨Below.mod hS m17 hzz (by simpa using hk17b),?_⟩
  replace hS := Below.mod hS m17 hzz (by simpa using hk17b)
  have K16 := K16.mod m17 (by simpa using hne)
  have R1 := R1.modT m17 T17 (by decide)
  have R2 := R2.modT m17 T17 (by decide)
  have R3 := R3.modT m17 T17 (by decide)
  have R4 := R4.modT m17 T17 (by decide)
  have K17 := K17'
  try simp only [pna,pnb,pnc,pnd,pne]
  refine wpAnyH_done (by kernel_rfl) ?_ _
  go_wp2_with fail
  go_meet
  exact ⟨k16,k17,xa,ya,ua,va,xc,yc,uc,vc,rfl,rfl,hk16b,hk17b,Lib.hid K16,Lib.hid K17,Lib.hid R1,Lib.hid R2,Lib.hid R3,Lib.hid R4,Lib.hid hS⟩
  refine wpO_op (oi := ⟨some 16,.alloc 93,0,"witness.go:46",#[],none⟩) rfl (by rfl) ?_
  refine wp_newK 93 (sdcs hdZ (.slice none 0 0) [] (.slice none 0 0)).toArray (fun k => .pointer (some ⟨k,0,none⟩)) (fun w => by kernel_rfl) ?_
  intro k16 w' hk16 hh16 hl16 hb16
  have hz16 := hS.size
  refine ⟨hS.trans (hb16.mono hS.size),?_⟩
  replace hS := hS.trans (hb16.mono hS.size)
  have K16 := Blk.of_heap hh16 hl16
  have T16 : Typ w' k16 93 := ⟨_,hh16⟩
  have hk16b : w4.heap.size ≤ k16 := Nat.le_trans hz16 hk16
  try have hne : k16 ≠ k17 := (fun e => by have := K17.lt; omega)
  try have K17 := K17.keep hb16
  try have T17 := T17.keep hb16
  try have R1 := R1.keep hb16
  try have R2 := R2.keep hb16
  try have R3 := R3.keep hb16
  try have R4 := R4.keep hb16
  try simp only [pna,pnb,pnc,pnd,pne]
  refine wpAnyH_all (rs := [11,13]) (by kernel_rfl) (by simp) (fun jj hjj => ?_)
  simp only [List.mem_cons,List.not_mem_nil,or_false] at hjj
  rcases hjj with rfl | rfl
  refine wpO_call (oi := ⟨some 55,.call { callee := .value (.func 54),args := #[.tmp 54],argTypes := #[93] },93,"witness.go:46",#[⟨10,.data⟩,⟨5,.chain⟩],none⟩) rfl (by rfl) (own_low (qb _ hS) hS.size) ?_ ?_
  ·(go_simp; try rfl)
  rintro e w' ⟨ua,uc,va,vc,rfl,R3,R4,hbx⟩
  refine ⟨_,rfl,hS.trans (hbx.mono hS.size),?_⟩
  replace hS := hS.trans (hbx.mono hS.size)
  have R1 := R1.keep hbx
  have R2 := R2.keep hbx
  try have K16 := K16.keep hbx
  try have T16 := T16.keep hbx
  try have K17 := K17.keep hbx
  try have T17 := T17.keep hbx
  try simp only [pna,pnb,pnc,pnd,pne]
  refine wpH_op 13 (oi := ⟨some 17,.alloc 93,0,"witness.go:46",#[],none⟩) rfl (by kernel_rfl) (by rfl) ?_
  refine wp_newK 93 (sdcs hdZ (.slice none 0 0) [] (.slice none 0 0)).toArray (fun k => .pointer (some ⟨k,0,none⟩)) (fun w => by kernel_rfl) ?_
  intro k17 w' hk17 hh17 hl17 hb17
  have hz17 := hS.size
  refine ⟨hS.trans (hb17.mono hS.size),?_⟩
  replace hS := hS.trans (hb17.mono hS.size)
  have K17 := Blk.of_heap hh17 hl17
  have T17 : Typ w' k17 93 := ⟨_,hh17⟩
  have hk17b : w4.heap.size ≤ k17 := Nat.le_trans hz17 hk17
  try have hne : k16 ≠ k17 := (fun e => by have := K16.lt; omega)
  try have K16 := K16.keep hb17
  try have T16 := T16.keep hb17
  try have R1 := R1.keep hb17
  try have R2 := R2.keep hb17
  try have R3 := R3.keep hb17
  try have R4 := R4.keep hb17
  try simp only [pna,pnb,pnc,pnd,pne]
  refine wpH_op 14 (oi := ⟨none,.store 93 (.tmp 16) (.tmp 49),0,"witness.go:46",#[⟨12,.data⟩,⟨5,.data⟩,⟨11,.chain⟩,⟨0,.phase⟩,⟨1,.phase⟩,⟨2,.phase⟩,⟨3,.phase⟩,⟨4,.phase⟩,⟨5,.phase⟩,{ on := 6,ground := .textOnly Departure.lateStores },{ on := 7,ground := .textOnly Departure.lateStores },{ on := 8,ground := .textOnly Departure.lateStores },{ on := 9,ground := .textOnly Departure.lateStores },{ on := 10,ground := .textOnly Departure.lateStores },{ on := 11,ground := .textOnly Departure.lateStoresUnsure },⟨12,.phase⟩,⟨13,.phase⟩],none⟩) rfl (by kernel_rfl) (by rfl) ?_
  refine wp_rowST row_side (.tmp 16) (.tmp 49) rfl rfl (vs := sdcs hA (.slice xa hA.skips.length xc) da (.slice ya nsa.length yc)) rfl rfl (sdcs_oneO _ _ _ _ _ _ _ _) (us := sdcs hdZ (.slice none 0 0) [] (.slice none 0 0)) rfl K16 T16 ?_
  intro w' K16' T16' m16
  have hzz := hS.size
  refine ⟨Below.mod hS m16 hzz (by simpa using hk16b),?_⟩
  replace hS := Below.mod hS m16 hzz (by simpa using hk16b)
  have K17 := K17.mod m16 (by simpa using hne.symm)
  have R1 := R1.modT m16 T16 (by decide)
  have R2 := R2.modT m16 T16 (by decide)
  have R3 := R3.modT m16 T16 (by decide)
  have R4 := R4.modT m16 T16 (by decide)
  have T17 := T17.mod m16 (by simpa using hne.symm)
  have K16 := K16'
  have T16 := T16'
  try simp only [pna,pnb,pnc,pnd,pne]
  refine wpH_op 15 (oi := ⟨none,.store 93 (.tmp 17) (.tmp 55),0,"witness.go:46",#[⟨13,.data⟩,⟨11,.data⟩,⟨14,.chain⟩,⟨0,.phase⟩,⟨1,.phase⟩,⟨2,.phase⟩,⟨3,.phase⟩,⟨4,.phase⟩,⟨5,.phase⟩,⟨6,.phase⟩,⟨7,.phase⟩,⟨8,.phase⟩,⟨9,.phase⟩,⟨10,.phase⟩,⟨11,.phase⟩,⟨12,.phase⟩,⟨13,.phase⟩,⟨14,.phase⟩],none⟩) rfl (by kernel_rfl) (by rfl) ?_
  refine wp_rowST row_side (.tmp 17) (.tmp 55) rfl rfl (vs := sdcs hB (.slice ua hB.skips.length uc) db (.slice va nsb.length vc)) rfl rfl (sdcs_oneO _ _ _ _ _ _ _ _) (us := sdcs hdZ (.slice none 0 0) [] (.slice none 0 0)) rfl K17 T17 ?_
  intro w' K17' T17' m17
  have hzz := hS.size
  refine ⟨Below.mod hS m17 hzz (by simpa using hk17b),?_⟩
  replace hS := Below.mod hS m17 hzz (by simpa using hk17b)
  have K16 := K16.mod m17 (by simpa using hne)
  have R1 := R1.modT m17 T17 (by decide)
  have R2 := R2.modT m17 T17 (by decide)
  have R3 := R3.modT m17 T17 (by decide)
  have R4 := R4.modT m17 T17 (by decide)
  have K17 := K17'
  try simp only [pna,pnb,pnc,pnd,pne]
  refine wpAnyH_done (by kernel_rfl) ?_ _
  go_wp2_with fail
  go_meet
  exact ⟨k16,k17,xa,ya,ua,va,xc,yc,uc,vc,rfl,rfl,hk16b,hk17b,Lib.hid K16,Lib.hid K17,Lib.hid R1,Lib.hid R2,Lib.hid R3,Lib.hid R4,Lib.hid hS⟩
  refine wpO_op (oi := ⟨some 17,.alloc 93,0,"witness.go:46",#[],none⟩) rfl (by rfl) ?_
  refine wp_newK 93 (sdcs hdZ (.slice none 0 0) [] (.slice none 0 0)).toArray (fun k => .pointer (some ⟨k,0,none⟩)) (fun w => by kernel_rfl) ?_
  intro k17 w' hk17 hh17 hl17 hb17
  have hz17 := hS.size
  refine ⟨hS.trans (hb17.mono hS.size),?_⟩
  replace hS := hS.trans (hb17.mono hS.size)
  have K17 := Blk.of_heap hh17 hl17
  have T17 : Typ w' k17 93 := ⟨_,hh17⟩
  have hk17b : w4.heap.size ≤ k17 := Nat.le_trans hz17 hk17
  try have hne : k16 ≠ k17 := (fun e => by have := K16.lt; omega)
  try have K16 := K16.keep hb17
  try have T16 := T16.keep hb17
  try have R1 := R1.keep hb17
  try have R2 := R2.keep hb17
  try have R3 := R3.keep hb17
  try have R4 := R4.keep hb17
  try simp only [pna,pnb,pnc,pnd,pne]
  refine wpH_call 11 (oi := ⟨some 55,.call { callee := .value (.func 54),args := #[.tmp 54],argTypes := #[93] },93,"witness.go:46",#[⟨10,.data⟩,⟨5,.chain⟩],none⟩) rfl (by kernel_rfl) (by rfl) (own_low (qb _ hS) hS.size) ?_ ?_
  ·(go_simp; try rfl)
  rintro e w' ⟨ua,uc,va,vc,rfl,R3,R4,hbx⟩
  refine ⟨_,rfl,hS.trans (hbx.mono hS.size),?_⟩
  replace hS := hS.trans (hbx.mono hS.size)
  have R1 := R1.keep hbx
  have R2 := R2.keep hbx
  try have K16 := K16.keep hbx
  try have T16 := T16.keep hbx
  try have K17 := K17.keep hbx
  try have T17 := T17.keep hbx
  try simp only [pna,pnb,pnc,pnd,pne]
  refine wpH_op 14 (oi := ⟨none,.store 93 (.tmp 16) (.tmp 49),0,"witness.go:46",#[⟨12,.data⟩,⟨5,.data⟩,⟨11,.chain⟩,⟨0,.phase⟩,⟨1,.phase⟩,⟨2,.phase⟩,⟨3,.phase⟩,⟨4,.phase⟩,⟨5,.phase⟩,{ on := 6,ground := .textOnly Departure.lateStores },{ on := 7,ground := .textOnly Departure.lateStores },{ on := 8,ground := .textOnly Departure.lateStores },{ on := 9,ground := .textOnly Departure.lateStores },{ on := 10,ground := .textOnly Departure.lateStores },{ on := 11,ground := .textOnly Departure.lateStoresUnsure },⟨12,.phase⟩,⟨13,.phase⟩],none⟩) rfl (by kernel_rfl) (by rfl) ?_
  refine wp_rowST row_side (.tmp 16) (.tmp 49) rfl rfl (vs := sdcs hA (.slice xa hA.skips.length xc) da (.slice ya nsa.length yc)) rfl rfl (sdcs_oneO _ _ _ _ _ _ _ _) (us := sdcs hdZ (.slice none 0 0) [] (.slice none 0 0)) rfl K16 T16 ?_
  intro w' K16' T16' m16
  have hzz := hS.size
  refine ⟨Below.mod hS m16 hzz (by simpa using hk16b),?_⟩
  replace hS := Below.mod hS m16 hzz (by simpa using hk16b)
  have K17 := K17.mod m16 (by simpa using hne.symm)
  have R1 := R1.modT m16 T16 (by decide)
  have R2 := R2.modT m16 T16 (by decide)
  have R3 := R3.modT m16 T16 (by decide)
  have R4 := R4.modT m16 T16 (by decide)
  have T17 := T17.mod m16 (by simpa using hne.symm)
  have K16 := K16'
  have T16 := T16'
  try simp only [pna,pnb,pnc,pnd,pne]
  refine wpH_op 15 (oi := ⟨none,.store 93 (.tmp 17) (.tmp 55),0,"witness.go:46",#[⟨13,.data⟩,⟨11,.data⟩,⟨14,.chain⟩,⟨0,.phase⟩,⟨1,.phase⟩,⟨2,.phase⟩,⟨3,.phase⟩,⟨4,.phase⟩,⟨5,.phase⟩,⟨6,.phase⟩,⟨7,.phase⟩,⟨8,.phase⟩,⟨9,.phase⟩,⟨10,.phase⟩,⟨11,.phase⟩,⟨12,.phase⟩,⟨13,.phase⟩,⟨14,.phase⟩],none⟩) rfl (by kernel_rfl) (by rfl) ?_
  refine wp_rowST row_side (.tmp 17) (.tmp 55) rfl rfl (vs := sdcs hB (.slice ua hB.skips.length uc) db (.slice va nsb.length vc)) rfl rfl (sdcs_oneO _ _ _ _ _ _ _ _) (us := sdcs hdZ (.slice none 0 0) [] (.slice none 0 0)) rfl K17 T17 ?_
  intro w' K17' T17' m17
  have hzz := hS.size
  refine ⟨Below.mod hS m17 hzz (by simpa using hk17b),?_⟩
  replace hS := Below.mod hS m17 hzz (by simpa using hk17b)
  have K16 := K16.mod m17 (by simpa using hne)
  have R1 := R1.modT m17 T17 (by decide)
  have R2 := R2.modT m17 T17 (by decide)
  have R3 := R3.modT m17 T17 (by decide)
  have R4 := R4.modT m17 T17 (by decide)
  have K17 := K17'
  try simp only [pna,pnb,pnc,pnd,pne]
  refine wpAnyH_done (by kernel_rfl) ?_ _
  go_wp2_with fail
  go_meet
  exact ⟨k16,k17,xa,ya,ua,va,xc,yc,uc,vc,rfl,rfl,hk16b,hk17b,Lib.hid K16,Lib.hid K17,Lib.hid R1,Lib.hid R2,Lib.hid R3,Lib.hid R4,Lib.hid hS⟩
  refine wpO_op (oi := ⟨some 17,.alloc 93,0,"witness.go:46",#[],none⟩) rfl (by rfl) ?_
  refine wp_newK 93 (sdcs hdZ (.slice none 0 0) [] (.slice none 0 0)).toArray (fun k => .pointer (some ⟨k,0,none⟩)) (fun w => by kernel_rfl) ?_
  intro k17 w' hk17 hh17 hl17 hb17
  have hz17 := hS.size
  refine ⟨hS.trans (hb17.mono hS.size),?_⟩
  replace hS := hS.trans (hb17.mono hS.size)
  have K17 := Blk.of_heap hh17 hl17
  have T17 : Typ w' k17 93 := ⟨_,hh17⟩
  have hk17b : w4.heap.size ≤ k17 := Nat.le_trans hz17 hk17
  try have hne : k16 ≠ k17 := (fun e => by have := K16.lt; omega)
  try have K16 := K16.keep hb17
  try have T16 := T16.keep hb17
  try have R1 := R1.keep hb17
  try have R2 := R2.keep hb17
  try have R3 := R3.keep hb17
  try have R4 := R4.keep hb17
  try simp only [pna,pnb,pnc,pnd,pne]
  refine wpAnyH_all (rs := [11,12]) (by kernel_rfl) (by simp) (fun jj hjj => ?_)
  simp only [List.mem_cons,List.not_mem_nil,or_false] at hjj
  rcases hjj with rfl | rfl
  refine wpO_call (oi := ⟨some 55,.call { callee := .value (.func 54),args := #[.tmp 54],argTypes := #[93] },93,"witness.go:46",#[⟨10,.data⟩,⟨5,.chain⟩],none⟩) rfl (by rfl) (own_low (qb _ hS) hS.size) ?_ ?_
  ·(go_simp; try rfl)
  rintro e w' ⟨ua,uc,va,vc,rfl,R3,R4,hbx⟩
  refine ⟨_,rfl,hS.trans (hbx.mono hS.size),?_⟩
  replace hS := hS.trans (hbx.mono hS.size)
  have R1 := R1.keep hbx
  have R2 := R2.keep hbx
  try have K16 := K16.keep hbx
  try have T16 := T16.keep hbx
  try have K17 := K17.keep hbx
  try have T17 := T17.keep hbx
  try simp only [pna,pnb,pnc,pnd,pne]
  refine wpH_op 12 (oi := ⟨some 16,.alloc 93,0,"witness.go:46",#[],none⟩) rfl (by kernel_rfl) (by rfl) ?_
  refine wp_newK 93 (sdcs hdZ (.slice none 0 0) [] (.slice none 0 0)).toArray (fun k => .pointer (some ⟨k,0,none⟩)) (fun w => by kernel_rfl) ?_
  intro k16 w' hk16 hh16 hl16 hb16
  have hz16 := hS.size
  refine ⟨hS.trans (hb16.mono hS.size),?_⟩
  replace hS := hS.trans (hb16.mono hS.size)
  have K16 := Blk.of_heap hh16 hl16
  have T16 : Typ w' k16 93 := ⟨_,hh16⟩
  have hk16b : w4.heap.size ≤ k16 := Nat.le_trans hz16 hk16
  try have hne : k16 ≠ k17 := (fun e => by have := K17.lt; omega)
  try have K17 := K17.keep hb16
  try have T17 := T17.keep hb16
  try have R1 := R1.keep hb16
  try have R2 := R2.keep hb16
  try have R3 := R3.keep hb16
  try have R4 := R4.keep hb16
  try simp only [pna,pnb,pnc,pnd,pne]
  refine wpH_op 14 (oi := ⟨none,.store 93 (.tmp 16) (.tmp 49),0,"witness.go:46",#[⟨12,.data⟩,⟨5,.data⟩,⟨11,.chain⟩,⟨0,.phase⟩,⟨1,.phase⟩,⟨2,.phase⟩,⟨3,.phase⟩,⟨4,.phase⟩,⟨5,.phase⟩,{ on := 6,ground := .textOnly Departure.lateStores },{ on := 7,ground := .textOnly Departure.lateStores },{ on := 8,ground := .textOnly Departure.lateStores },{ on := 9,ground := .textOnly Departure.lateStores },{ on := 10,ground := .textOnly Departure.lateStores },{ on := 11,ground := .textOnly Departure.lateStoresUnsure },⟨12,.phase⟩,⟨13,.phase⟩],none⟩) rfl (by kernel_rfl) (by rfl) ?_
  refine wp_rowST row_side (.tmp 16) (.tmp 49) rfl rfl (vs := sdcs hA (.slice xa hA.skips.length xc) da (.slice ya nsa.length yc)) rfl rfl (sdcs_oneO _ _ _ _ _ _ _ _) (us := sdcs hdZ (.slice none 0 0) [] (.slice none 0 0)) rfl K16 T16 ?_
  intro w' K16' T16' m16
  have hzz := hS.size
  refine ⟨Below.mod hS m16 hzz (by simpa using hk16b),?_⟩
  replace hS := Below.mod hS m16 hzz (by simpa using hk16b)
  have K17 := K17.mod m16 (by simpa using hne.symm)
  have R1 := R1.modT m16 T16 (by decide)
  have R2 := R2.modT m16 T16 (by decide)
  have R3 := R3.modT m16 T16 (by decide)
  have R4 := R4.modT m16 T16 (by decide)
  have T17 := T17.mod m16 (by simpa using hne.symm)
  have K16 := K16'
  have T16 := T16'
  try simp only [pna,pnb,pnc,pnd,pne]
  refine wpH_op 15 (oi := ⟨none,.store 93 (.tmp 17) (.tmp 55),0,"witness.go:46",#[⟨13,.data⟩,⟨11,.data⟩,⟨14,.chain⟩,⟨0,.phase⟩,⟨1,.phase⟩,⟨2,.phase⟩,⟨3,.phase⟩,⟨4,.phase⟩,⟨5,.phase⟩,⟨6,.phase⟩,⟨7,.phase⟩,⟨8,.phase⟩,⟨9,.phase⟩,⟨10,.phase⟩,⟨11,.phase⟩,⟨12,.phase⟩,⟨13,.phase⟩,⟨14,.phase⟩],none⟩) rfl (by kernel_rfl) (by rfl) ?_
  refine wp_rowST row_side (.tmp 17) (.tmp 55) rfl rfl (vs := sdcs hB (.slice ua hB.skips.length uc) db (.slice va nsb.length vc)) rfl rfl (sdcs_oneO _ _ _ _ _ _ _ _) (us := sdcs hdZ (.slice none 0 0) [] (.slice none 0 0)) rfl K17 T17 ?_
  intro w' K17' T17' m17
  have hzz := hS.size
  refine ⟨Below.mod hS m17 hzz (by simpa using hk17b),?_⟩
  replace hS := Below.mod hS m17 hzz (by simpa using hk17b)
  have K16 := K16.mod m17 (by simpa using hne)
  have R1 := R1.modT m17 T17 (by decide)
  have R2 := R2.modT m17 T17 (by decide)
  have R3 := R3.modT m17 T17 (by decide)
  have R4 := R4.modT m17 T17 (by decide)
  have K17 := K17'
  try simp only [pna,pnb,pnc,pnd,pne]
  refine wpAnyH_done (by kernel_rfl) ?_ _
  go_wp2_with fail
  go_meet
  exact ⟨k16,k17,xa,ya,ua,va,xc,yc,uc,vc,rfl,rfl,hk16b,hk17b,Lib.hid K16,Lib.hid K17,Lib.hid R1,Lib.hid R2,Lib.hid R3,Lib.hid R4,Lib.hid hS⟩
  refine wpO_op (oi := ⟨some 16,.alloc 93,0,"witness.go:46",#[],none⟩) rfl (by rfl) ?_
  refine wp_newK 93 (sdcs hdZ (.slice none 0 0) [] (.slice none 0 0)).toArray (fun k => .pointer (some ⟨k,0,none⟩)) (fun w => by kernel_rfl) ?_
  intro k16 w' hk16 hh16 hl16 hb16
  have hz16 := hS.size
  refine ⟨hS.trans (hb16.mono hS.size),?_⟩
  replace hS := hS.trans (hb16.mono hS.size)
  have K16 := Blk.of_heap hh16 hl16
  have T16 : Typ w' k16 93 := ⟨_,hh16⟩
  have hk16b : w4.heap.size ≤ k16 := Nat.le_trans hz16 hk16
  try have hne : k16 ≠ k17 := (fun e => by have := K17.lt; omega)
  try have K17 := K17.keep hb16
  try have T17 := T17.keep hb16
  try have R1 := R1.keep hb16
  try have R2 := R2.keep hb16
  try have R3 := R3.keep hb16
  try have R4 := R4.keep hb16
  try simp only [pna,pnb,pnc,pnd,pne]
  refine wpH_call 11 (oi := ⟨some 55,.call { callee := .value (.func 54),args := #[.tmp 54],argTypes := #[93] },93,"witness.go:46",#[⟨10,.data⟩,⟨5,.chain⟩],none⟩) rfl (by kernel_rfl) (by rfl) (own_low (qb _ hS) hS.size) ?_ ?_
  ·(go_simp; try rfl)
  rintro e w' ⟨ua,uc,va,vc,rfl,R3,R4,hbx⟩
  refine ⟨_,rfl,hS.trans (hbx.mono hS.size),?_⟩
  replace hS := hS.trans (hbx.mono hS.size)
  have R1 := R1.keep hbx
  have R2 := R2.keep hbx
  try have K16 := K16.keep hbx
  try have T16 := T16.keep hbx
  try have K17 := K17.keep hbx
  try have T17 := T17.keep hbx
  try simp only [pna,pnb,pnc,pnd,pne]
  refine wpH_op 14 (oi := ⟨none,.store 93 (.tmp 16) (.tmp 49),0,"witness.go:46",#[⟨12,.data⟩,⟨5,.data⟩,⟨11,.chain⟩,⟨0,.phase⟩,⟨1,.phase⟩,⟨2,.phase⟩,⟨3,.phase⟩,⟨4,.phase⟩,⟨5,.phase⟩,{ on := 6,ground := .textOnly Departure.lateStores },{ on := 7,ground := .textOnly Departure.lateStores },{ on := 8,ground := .textOnly Departure.lateStores },{ on := 9,ground := .textOnly Departure.lateStores },{ on := 10,ground := .textOnly Departure.lateStores },{ on := 11,ground := .textOnly Departure.lateStoresUnsure },⟨12,.phase⟩,⟨13,.phase⟩],none⟩) rfl (by kernel_rfl) (by rfl) ?_
  refine wp_rowST row_side (.tmp 16) (.tmp 49) rfl rfl (vs := sdcs hA (.slice xa hA.skips.length xc) da (.slice ya nsa.length yc)) rfl rfl (sdcs_oneO _ _ _ _ _ _ _ _) (us := sdcs hdZ (.slice none 0 0) [] (.slice none 0 0)) rfl K16 T16 ?_
  intro w' K16' T16' m16
  have hzz := hS.size
  refine ⟨Below.mod hS m16 hzz (by simpa using hk16b),?_⟩
  replace hS := Below.mod hS m16 hzz (by simpa using hk16b)
  have K17 := K17.mod m16 (by simpa using hne.symm)
  have R1 := R1.modT m16 T16 (by decide)
  have R2 := R2.modT m16 T16 (by decide)
  have R3 := R3.modT m16 T16 (by decide)
  have R4 := R4.modT m16 T16 (by decide)
  have T17 := T17.mod m16 (by simpa using hne.symm)
  have K16 := K16'
  have T16 := T16'
  try simp only [pna,pnb,pnc,pnd,pne]
  refine wpH_op 15 (oi := ⟨none,.store 93 (.tmp 17) (.tmp 55),0,"witness.go:46",#[⟨13,.data⟩,⟨11,.data⟩,⟨14,.chain⟩,⟨0,.phase⟩,⟨1,.phase⟩,⟨2,.phase⟩,⟨3,.phase⟩,⟨4,.phase⟩,⟨5,.phase⟩,⟨6,.phase⟩,⟨7,.phase⟩,⟨8,.phase⟩,⟨9,.phase⟩,⟨10,.phase⟩,⟨11,.phase⟩,⟨12,.phase⟩,⟨13,.phase⟩,⟨14,.phase⟩],none⟩) rfl (by kernel_rfl) (by rfl) ?_
  refine wp_rowST row_side (.tmp 17) (.tmp 55) rfl rfl (vs := sdcs hB (.slice ua hB.skips.length uc) db (.slice va nsb.length vc)) rfl rfl (sdcs_oneO _ _ _ _ _ _ _ _) (us := sdcs hdZ (.slice none 0 0) [] (.slice none 0 0)) rfl K17 T17 ?_
  intro w' K17' T17' m17
  have hzz := hS.size
  refine ⟨Below.mod hS m17 hzz (by simpa using hk17b),?_⟩
  replace hS := Below.mod hS m17 hzz (by simpa using hk17b)
  have K16 := K16.mod m17 (by simpa using hne)
  have R1 := R1.modT m17 T17 (by decide)
  have R2 := R2.modT m17 T17 (by decide)
  have R3 := R3.modT m17 T17 (by decide)
  have R4 := R4.modT m17 T17 (by decide)
  have K17 := K17'
  try simp only [pna,pnb,pnc,pnd,pne]
  refine wpAnyH_done (by kernel_rfl) ?_ _
  go_wp2_with fail
  go_meet
  exact ⟨k16,k17,xa,ya,ua,va,xc,yc,uc,vc,rfl,rfl,hk16b,hk17b,Lib.hid K16,Lib.hid K17,Lib.hid R1,Lib.hid R2,Lib.hid R3,Lib.hid R4,Lib.hid hS⟩
  refine wpO_op (oi := ⟨some 16,.alloc 93,0,"witness.go:46",#[],none⟩) rfl (by rfl) ?_
  refine wp_newK 93 (sdcs hdZ (.slice none 0 0) [] (.slice none 0 0)).toArray (fun k => .pointer (some ⟨k,0,none⟩)) (fun w => by kernel_rfl) ?_
  intro k16 w' hk16 hh16 hl16 hb16
  have hz16 := hS.size
  refine ⟨hS.trans (hb16.mono hS.size),?_⟩
  replace hS := hS.trans (hb16.mono hS.size)
  have K16 := Blk.of_heap hh16 hl16
  have T16 : Typ w' k16 93 := ⟨_,hh16⟩
  have hk16b : w4.heap.size ≤ k16 := Nat.le_trans hz16 hk16
  try have hne : k16 ≠ k17 := (fun e => by have := K17.lt; omega)
  try have K17 := K17.keep hb16
  try have T17 := T17.keep hb16
  try have R1 := R1.keep hb16
  try have R2 := R2.keep hb16
  try have R3 := R3.keep hb16
  try have R4 := R4.keep hb16
  try simp only [pna,pnb,pnc,pnd,pne]
  refine wpAnyH_all (rs := [5,13]) (by kernel_rfl) (by simp) (fun jj hjj => ?_)
  simp only [List.mem_cons,List.not_mem_nil,or_false] at hjj
  rcases hjj with rfl | rfl
  refine wpO_call (oi := ⟨some 49,.call { callee := .value (.func 54),args := #[.tmp 48],argTypes := #[93] },93,"witness.go:46",#[⟨4,.data⟩],none⟩) rfl (by rfl) (own_low (qa _ hS) hS.size) ?_ ?_
  ·(go_simp; try rfl)
  rintro e w' ⟨xa,xc,ya,yc,rfl,R1,R2,hbx⟩
  refine ⟨_,rfl,hS.trans (hbx.mono hS.size),?_⟩
  replace hS := hS.trans (hbx.mono hS.size)
  try have K16 := K16.keep hbx
  try have T16 := T16.keep hbx
  try have K17 := K17.keep hbx
  try have T17 := T17.keep hbx
  try simp only [pna,pnb,pnc,pnd,pne]
  refine wpAnyH_all (rs := [11,13]) (by kernel_rfl) (by simp) (fun jj hjj => ?_)
  simp only [List.mem_cons,List.not_mem_nil,or_false] at hjj
  rcases hjj with rfl | rfl
  refine wpO_call (oi := ⟨some 55,.call { callee := .value (.func 54),args := #[.tmp 54],argTypes := #[93] },93,"witness.go:46",#[⟨10,.data⟩,⟨5,.chain⟩],none⟩) rfl (by rfl) (own_low (qb _ hS) hS.size) ?_ ?_
  ·(go_simp; try rfl)
  rintro e w' ⟨ua,uc,va,vc,rfl,R3,R4,hbx⟩
  refine ⟨_,rfl,hS.trans (hbx.mono hS.size),?_⟩
  replace hS := hS.trans (hbx.mono hS.size)
  have R1 := R1.keep hbx
  have R2 := R2.keep hbx
  try have K16 := K16.keep hbx
  try have T16 := T16.keep hbx
  try have K17 := K17.keep hbx
  try have T17 := T17.keep hbx
  try simp only [pna,pnb,pnc,pnd,pne]
  refine wpH_op 13 (oi := ⟨some 17,.alloc 93,0,"witness.go:46",#[],none⟩) rfl (by kernel_rfl) (by rfl) ?_
  refine wp_newK 93 (sdcs hdZ (.slice none 0 0) [] (.slice none 0 0)).toArray (fun k => .pointer (some ⟨k,0,none⟩)) (fun w => by kernel_rfl) ?_
  intro k17 w' hk17 hh17 hl17 hb17
  have hz17 := hS.size
  refine ⟨hS.trans (hb17.mono hS.size),?_⟩
  replace hS := hS.trans (hb17.mono hS.size)
  have K17 := Blk.of_heap hh17 hl17
  have T17 : Typ w' k17 93 := ⟨_,hh17⟩
  have hk17b : w4.heap.size ≤ k17 := Nat.le_trans hz17 hk17
  try have hne : k16 ≠ k17 := (fun e => by have := K16.lt; omega)
  try have K16 := K16.keep hb17
  try have T16 := T16.keep hb17
  try have R1 := R1.keep hb17
  try have R2 := R2.keep hb17
  try have R3 := R3.keep hb17
  try have R4 := R4.keep hb17
  try simp only [pna,pnb,pnc,pnd,pne]
  refine wpH_op 14 (oi := ⟨none,.store 93 (.tmp 16) (.tmp 49),0,"witness.go:46",#[⟨12,.data⟩,⟨5,.data⟩,⟨11,.chain⟩,⟨0,.phase⟩,⟨1,.phase⟩,⟨2,.phase⟩,⟨3,.phase⟩,⟨4,.phase⟩,⟨5,.phase⟩,{ on := 6,ground := .textOnly Departure.lateStores },{ on := 7,ground := .textOnly Departure.lateStores },{ on := 8,ground := .textOnly Departure.lateStores },{ on := 9,ground := .textOnly Departure.lateStores },{ on := 10,ground := .textOnly Departure.lateStores },{ on := 11,ground := .textOnly Departure.lateStoresUnsure },⟨12,.phase⟩,⟨13,.phase⟩],none⟩) rfl (by kernel_rfl) (by rfl) ?_
  refine wp_rowST row_side (.tmp 16) (.tmp 49) rfl rfl (vs := sdcs hA (.slice xa hA.skips.length xc) da (.slice ya nsa.length yc)) rfl rfl (sdcs_oneO _ _ _ _ _ _ _ _) (us := sdcs hdZ (.slice none 0 0) [] (.slice none 0 0)) rfl K16 T16 ?_
  intro w' K16' T16' m16
  have hzz := hS.size
  refine ⟨Below.mod hS m16 hzz (by simpa using hk16b),?_⟩
  replace hS := Below.mod hS m16 hzz (by simpa using hk16b)
  have K17 := K17.mod m16 (by simpa using hne.symm)
  have R1 := R1.modT m16 T16 (by decide)
  have R2 := R2.modT m16 T16 (by decide)
  have R3 := R3.modT m16 T16 (by decide)
  have R4 := R4.modT m16 T16 (by decide)
  have T17 := T17.mod m16 (by simpa using hne.symm)
  have K16 := K16'
  have T16 := T16'
  try simp only [pna,pnb,pnc,pnd,pne]
  refine wpH_op 15 (oi := ⟨none,.store 93 (.tmp 17) (.tmp 55),0,"witness.go:46",#[⟨13,.data⟩,⟨11,.data⟩,⟨14,.chain⟩,⟨0,.phase⟩,⟨1,.phase⟩,⟨2,.phase⟩,⟨3,.phase⟩,⟨4,.phase⟩,⟨5,.phase⟩,⟨6,.phase⟩,⟨7,.phase⟩,⟨8,.phase⟩,⟨9,.phase⟩,⟨10,.phase⟩,⟨11,.phase⟩,⟨12,.phase⟩,⟨13,.phase⟩,⟨14,.phase⟩],none⟩) rfl (by kernel_rfl) (by rfl) ?_
  refine wp_rowST row_side (.tmp 17) (.tmp 55) rfl rfl (vs := sdcs hB (.slice ua hB.skips.length uc) db (.slice va nsb.length vc)) rfl rfl (sdcs_oneO _ _ _ _ _ _ _ _) (us := sdcs hdZ (.slice none 0 0) [] (.slice none 0 0)) rfl K17 T17 ?_
  intro w' K17' T17' m17
  have hzz := hS.size
  refine ⟨Below.mod hS m17 hzz (by simpa using hk17b),?_⟩
  replace hS := Below.mod hS m17 hzz (by simpa using hk17b)
  have K16 := K16.mod m17 (by simpa using hne)
  have R1 := R1.modT m17 T17 (by decide)
  have R2 := R2.modT m17 T17 (by decide)
  have R3 := R3.modT m17 T17 (by decide)
  have R4 := R4.modT m17 T17 (by decide)
  have K17 := K17'
  try simp only [pna,pnb,pnc,pnd,pne]
  refine wpAnyH_done (by kernel_rfl) ?_ _
  go_wp2_with fail
  go_meet
  exact ⟨k16,k17,xa,ya,ua,va,xc,yc,uc,vc,rfl,rfl,hk16b,hk17b,Lib.hid K16,Lib.hid K17,Lib.hid R1,Lib.hid R2,Lib.hid R3,Lib.hid R4,Lib.hid hS⟩
  refine wpO_op (oi := ⟨some 17,.alloc 93,0,"witness.go:46",#[],none⟩) rfl (by rfl) ?_
  refine wp_newK 93 (sdcs hdZ (.slice none 0 0) [] (.slice none 0 0)).toArray (fun k => .pointer (some ⟨k,0,none⟩)) (fun w => by kernel_rfl) ?_
  intro k17 w' hk17 hh17 hl17 hb17
  have hz17 := hS.size
  refine ⟨hS.trans (hb17.mono hS.size),?_⟩
  replace hS := hS.trans (hb17.mono hS.size)
  have K17 := Blk.of_heap hh17 hl17
  have T17 : Typ w' k17 93 := ⟨_,hh17⟩
  have hk17b : w4.heap.size ≤ k17 := Nat.le_trans hz17 hk17
  try have hne : k16 ≠ k17 := (fun e => by have := K16.lt; omega)
  try have K16 := K16.keep hb17
  try have T16 := T16.keep hb17
  try have R1 := R1.keep hb17
  try have R2 := R2.keep hb17
  try have R3 := R3.keep hb17
  try have R4 := R4.keep hb17
  try simp only [pna,pnb,pnc,pnd,pne]
  refine wpH_call 11 (oi := ⟨some 55,.call { callee := .value (.func 54),args := #[.tmp 54],argTypes := #[93] },93,"witness.go:46",#[⟨10,.data⟩,⟨5,.chain⟩],none⟩) rfl (by kernel_rfl) (by rfl) (own_low (qb _ hS) hS.size) ?_ ?_
  ·(go_simp; try rfl)
  rintro e w' ⟨ua,uc,va,vc,rfl,R3,R4,hbx⟩
  refine ⟨_,rfl,hS.trans (hbx.mono hS.size),?_⟩
  replace hS := hS.trans (hbx.mono hS.size)
  have R1 := R1.keep hbx
  have R2 := R2.keep hbx
  try have K16 := K16.keep hbx
  try have T16 := T16.keep hbx
  try have K17 := K17.keep hbx
  try have T17 := T17.keep hbx
  try simp only [pna,pnb,pnc,pnd,pne]
  refine wpH_op 14 (oi := ⟨none,.store 93 (.tmp 16) (.tmp 49),0,"witness.go:46",#[⟨12,.data⟩,⟨5,.data⟩,⟨11,.chain⟩,⟨0,.phase⟩,⟨1,.phase⟩,⟨2,.phase⟩,⟨3,.phase⟩,⟨4,.phase⟩,⟨5,.phase⟩,{ on := 6,ground := .textOnly Departure.lateStores },{ on := 7,ground := .textOnly Departure.lateStores },{ on := 8,ground := .textOnly Departure.lateStores },{ on := 9,ground := .textOnly Departure.lateStores },{ on := 10,ground := .textOnly Departure.lateStores },{ on := 11,ground := .textOnly Departure.lateStoresUnsure },⟨12,.phase⟩,⟨13,.phase⟩],none⟩) rfl (by kernel_rfl) (by rfl) ?_
  refine wp_rowST row_side (.tmp 16) (.tmp 49) rfl rfl (vs := sdcs hA (.slice xa hA.skips.length xc) da (.slice ya nsa.length yc)) rfl rfl (sdcs_oneO _ _ _ _ _ _ _ _) (us := sdcs hdZ (.slice none 0 0) [] (.slice none 0 0)) rfl K16 T16 ?_
  intro w' K16' T16' m16
  have hzz := hS.size
  refine ⟨Below.mod hS m16 hzz (by simpa using hk16b),?_⟩
  replace hS := Below.mod hS m16 hzz (by simpa using hk16b)
  have K17 := K17.mod m16 (by simpa using hne.symm)
  have R1 := R1.modT m16 T16 (by decide)
  have R2 := R2.modT m16 T16 (by decide)
  have R3 := R3.modT m16 T16 (by decide)
  have R4 := R4.modT m16 T16 (by decide)
  have T17 := T17.mod m16 (by simpa using hne.symm)
  have K16 := K16'
  have T16 := T16'
  try simp only [pna,pnb,pnc,pnd,pne]
  refine wpH_op 15 (oi := ⟨none,.store 93 (.tmp 17) (.tmp 55),0,"witness.go:46",#[⟨13,.data⟩,⟨11,.data⟩,⟨14,.chain⟩,⟨0,.phase⟩,⟨1,.phase⟩,⟨2,.phase⟩,⟨3,.phase⟩,⟨4,.phase⟩,⟨5,.phase⟩,⟨6,.phase⟩,⟨7,.phase⟩,⟨8,.phase⟩,⟨9,.phase⟩,⟨10,.phase⟩,⟨11,.phase⟩,⟨12,.phase⟩,⟨13,.phase⟩,⟨14,.phase⟩],none⟩) rfl (by kernel_rfl) (by rfl) ?_
  refine wp_rowST row_side (.tmp 17) (.tmp 55) rfl rfl (vs := sdcs hB (.slice ua hB.skips.length uc) db (.slice va nsb.length vc)) rfl rfl (sdcs_oneO _ _ _ _ _ _ _ _) (us := sdcs hdZ (.slice none 0 0) [] (.slice none 0 0)) rfl K17 T17 ?_
  intro w' K17' T17' m17
  have hzz := hS.size
  refine ⟨Below.mod hS m17 hzz (by simpa using hk17b),?_⟩
  replace hS := Below.mod hS m17 hzz (by simpa using hk17b)
  have K16 := K16.mod m17 (by simpa using hne)
  have R1 := R1.modT m17 T17 (by decide)
  have R2 := R2.modT m17 T17 (by decide)
  have R3 := R3.modT m17 T17 (by decide)
  have R4 := R4.modT m17 T17 (by decide)
  have K17 := K17'
  try simp only [pna,pnb,pnc,pnd,pne]
  refine wpAnyH_done (by kernel_rfl) ?_ _
  go_wp2_with fail
  go_meet
  exact ⟨k16,k17,xa,ya,ua,va,xc,yc,uc,vc,rfl,rfl,hk16b,hk17b,Lib.hid K16,Lib.hid K17,Lib.hid R1,Lib.hid R2,Lib.hid R3,Lib.hid R4,Lib.hid hS⟩
  refine wpO_op (oi := ⟨some 17,.alloc 93,0,"witness.go:46",#[],none⟩) rfl (by rfl) ?_
  refine wp_newK 93 (sdcs hdZ (.slice none 0 0) [] (.slice none 0 0)).toArray (fun k => .pointer (some ⟨k,0,none⟩)) (fun w => by kernel_rfl) ?_
  intro k17 w' hk17 hh17 hl17 hb17
  have hz17 := hS.size
  refine ⟨hS.trans (hb17.mono hS.size),?_⟩
  replace hS := hS.trans (hb17.mono hS.size)
  have K17 := Blk.of_heap hh17 hl17
  have T17 : Typ w' k17 93 := ⟨_,hh17⟩
  have hk17b : w4.heap.size ≤ k17 := Nat.le_trans hz17 hk17
  try have hne : k16 ≠ k17 := (fun e => by have := K16.lt; omega)
  try have K16 := K16.keep hb17
  try have T16 := T16.keep hb17
  try have R1 := R1.keep hb17
  try have R2 := R2.keep hb17
  try have R3 := R3.keep hb17
  try have R4 := R4.keep hb17
  try simp only [pna,pnb,pnc,pnd,pne]
  refine wpH_call 5 (oi := ⟨some 49,.call { callee := .value (.func 54),args := #[.tmp 48],argTypes := #[93] },93,"witness.go:46",#[⟨4,.data⟩],none⟩) rfl (by kernel_rfl) (by rfl) (own_low (qa _ hS) hS.size) ?_ ?_
  ·(go_simp; try rfl)
  rintro e w' ⟨xa,xc,ya,yc,rfl,R1,R2,hbx⟩
  refine ⟨_,rfl,hS.trans (hbx.mono hS.size),?_⟩
  replace hS := hS.trans (hbx.mono hS.size)
  try have K16 := K16.keep hbx
  try have T16 := T16.keep hbx
  try have K17 := K17.keep hbx
  try have T17 := T17.keep hbx
  try simp only [pna,pnb,pnc,pnd,pne]
  refine wpH_call 11 (oi := ⟨some 55,.call { callee := .value (.func 54),args := #[.tmp 54],argTypes := #[93] },93,"witness.go:46",#[⟨10,.data⟩,⟨5,.chain⟩],none⟩) rfl (by kernel_rfl) (by rfl) (own_low (qb _ hS) hS.size) ?_ ?_
  ·(go_simp; try rfl)
  rintro e w' ⟨ua,uc,va,vc,rfl,R3,R4,hbx⟩
  refine ⟨_,rfl,hS.trans (hbx.mono hS.size),?_⟩
  replace hS := hS.trans (hbx.mono hS.size)
  have R1 := R1.keep hbx
  have R2 := R2.keep hbx
  try have K16 := K16.keep hbx
  try have T16 := T16.keep hbx
  try have K17 := K17.keep hbx
  try have T17 := T17.keep hbx
  try simp only [pna,pnb,pnc,pnd,pne]
  refine wpH_op 14 (oi := ⟨none,.store 93 (.tmp 16) (.tmp 49),0,"witness.go:46",#[⟨12,.data⟩,⟨5,.data⟩,⟨11,.chain⟩,⟨0,.phase⟩,⟨1,.phase⟩,⟨2,.phase⟩,⟨3,.phase⟩,⟨4,.phase⟩,⟨5,.phase⟩,{ on := 6,ground := .textOnly Departure.lateStores },{ on := 7,ground := .textOnly Departure.lateStores },{ on := 8,ground := .textOnly Departure.lateStores },{ on := 9,ground := .textOnly Departure.lateStores },{ on := 10,ground := .textOnly Departure.lateStores },{ on := 11,ground := .textOnly Departure.lateStoresUnsure },⟨12,.phase⟩,⟨13,.phase⟩],none⟩) rfl (by kernel_rfl) (by rfl) ?_
  refine wp_rowST row_side (.tmp 16) (.tmp 49) rfl rfl (vs := sdcs hA (.slice xa hA.skips.length xc) da (.slice ya nsa.length yc)) rfl rfl (sdcs_oneO _ _ _ _ _ _ _ _) (us := sdcs hdZ (.slice none 0 0) [] (.slice none 0 0)) rfl K16 T16 ?_
  intro w' K16' T16' m16
  have hzz := hS.size
  refine ⟨Below.mod hS m16 hzz (by simpa using hk16b),?_⟩
  replace hS := Below.mod hS m16 hzz (by simpa using hk16b)
  have K17 := K17.mod m16 (by simpa using hne.symm)
  have R1 := R1.modT m16 T16 (by decide)
  have R2 := R2.modT m16 T16 (by decide)
  have R3 := R3.modT m16 T16 (by decide)
  have R4 := R4.modT m16 T16 (by decide)
  have T17 := T17.mod m16 (by simpa using hne.symm)
  have K16 := K16'
  have T16 := T16'
  try simp only [pna,pnb,pnc,pnd,pne]
  refine wpH_op 15 (oi := ⟨none,.store 93 (.tmp 17) (.tmp 55),0,"witness.go:46",#[⟨13,.data⟩,⟨11,.data⟩,⟨14,.chain⟩,⟨0,.phase⟩,⟨1,.phase⟩,⟨2,.phase⟩,⟨3,.phase⟩,⟨4,.phase⟩,⟨5,.phase⟩,⟨6,.phase⟩,⟨7,.phase⟩,⟨8,.phase⟩,⟨9,.phase⟩,⟨10,.phase⟩,⟨11,.phase⟩,⟨12,.phase⟩,⟨13,.phase⟩,⟨14,.phase⟩],none⟩) rfl (by kernel_rfl) (by rfl) ?_
  refine wp_rowST row_side (.tmp 17) (.tmp 55) rfl rfl (vs := sdcs hB (.slice ua hB.skips.length uc) db (.slice va nsb.length vc)) rfl rfl (sdcs_oneO _ _ _ _ _ _ _ _) (us := sdcs hdZ (.slice none 0 0) [] (.slice none 0 0)) rfl K17 T17 ?_
  intro w' K17' T17' m17
  have hzz := hS.size
  refine ⟨Below.mod hS m17 hzz (by simpa using hk17b),?_⟩
  replace hS := Below.mod hS m17 hzz (by simpa using hk17b)
  have K16 := K16.mod m17 (by simpa using hne)
  have R1 := R1.modT m17 T17 (by decide)
  have R2 := R2.modT m17 T17 (by decide)
  have R3 := R3.modT m17 T17 (by decide)
  have R4 := R4.modT m17 T17 (by decide)
  have K17 := K17'
  try simp only [pna,pnb,pnc,pnd,pne]
  refine wpAnyH_done (by kernel_rfl) ?_ _
  go_wp2_with fail
  go_meet
  exact ⟨k16,k17,xa,ya,ua,va,xc,yc,uc,vc,rfl,rfl,hk16b,hk17b,Lib.hid K16,Lib.hid K17,Lib.hid R1,Lib.hid R2,Lib.hid R3,Lib.hid R4,Lib.hid hS⟩
  refine wpO_op (oi := ⟨some 17,.alloc 93,0,"witness.go:46",#[],none⟩) rfl (by rfl) ?_
  refine wp_newK 93 (sdcs hdZ (.slice none 0 0) [] (.slice none 0 0)).toArray (fun k => .pointer (some ⟨k,0,none⟩)) (fun w => by kernel_rfl) ?_
  intro k17 w' hk17 hh17 hl17 hb17
  have hz17 := hS.size
  refine ⟨hS.trans (hb17.mono hS.size),?_⟩
  replace hS := hS.trans (hb17.mono hS.size)
  have K17 := Blk.of_heap hh17 hl17
  have T17 : Typ w' k17 93 := ⟨_,hh17⟩
  have hk17b : w4.heap.size ≤ k17 := Nat.le_trans hz17 hk17
  try have hne : k16 ≠ k17 := (fun e => by have := K16.lt; omega)
  try have K16 := K16.keep hb17
  try have T16 := T16.keep hb17
  try have R1 := R1.keep hb17
  try have R2 := R2.keep hb17
  try have R3 := R3.keep hb17
  try have R4 := R4.keep hb17
  try simp only [pna,pnb,pnc,pnd,pne]
  refine wpAnyH_all (rs := [5,12]) (by kernel_rfl) (by simp) (fun jj hjj => ?_)
  simp only [List.mem_cons,List.not_mem_nil,or_false] at hjj
  rcases hjj with rfl | rfl
  refine wpO_call (oi := ⟨some 49,.call { callee := .value (.func 54),args := #[.tmp 48],argTypes := #[93] },93,"witness.go:46",#[⟨4,.data⟩],none⟩) rfl (by rfl) (own_low (qa _ hS) hS.size) ?_ ?_
  ·(go_simp; try rfl)
  rintro e w' ⟨xa,xc,ya,yc,rfl,R1,R2,hbx⟩
  refine ⟨_,rfl,hS.trans (hbx.mono hS.size),?_⟩
  replace hS := hS.trans (hbx.mono hS.size)
  try have K16 := K16.keep hbx
  try have T16 := T16.keep hbx
  try have K17 := K17.keep hbx
  try have T17 := T17.keep hbx
  try simp only [pna,pnb,pnc,pnd,pne]
  refine wpAnyH_all (rs := [11,12]) (by kernel_rfl) (by simp) (fun jj hjj => ?_)
  simp only [List.mem_cons,List.not_mem_nil,or_false] at hjj
  rcases hjj with rfl | rfl
  refine wpO_call (oi := ⟨some 55,.call { callee := .value (.func 54),args := #[.tmp 54],argTypes := #[93] },93,"witness.go:46",#[⟨10,.data⟩,⟨5,.chain⟩],none⟩) rfl (by rfl) (own_low (qb _ hS) hS.size) ?_ ?_
  ·(go_simp; try rfl)
  rintro e w' ⟨ua,uc,va,vc,rfl,R3,R4,hbx⟩
  refine ⟨_,rfl,hS.trans (hbx.mono hS.size),?_⟩
  replace hS := hS.trans (hbx.mono hS.size)
  have R1 := R1.keep hbx
  have R2 := R2.keep hbx
  try have K16 := K16.keep hbx
  try have T16 := T16.keep hbx
  try have K17 := K17.keep hbx
  try have T17 := T17.keep hbx
  try simp only [pna,pnb,pnc,pnd,pne]
  refine wpH_op 12 (oi := ⟨some 16,.alloc 93,0,"witness.go:46",#[],none⟩) rfl (by kernel_rfl) (by rfl) ?_
  refine wp_newK 93 (sdcs hdZ (.slice none 0 0) [] (.slice none 0 0)).toArray (fun k => .pointer (some ⟨k,0,none⟩)) (fun w => by kernel_rfl) ?_
  intro k16 w' hk16 hh16 hl16 hb16
  have hz16 := hS.size
  refine ⟨hS.trans (hb16.mono hS.size),?_⟩
  replace hS := hS.trans (hb16.mono hS.size)
  have K16 := Blk.of_heap hh16 hl16
  have T16 : Typ w' k16 93 := ⟨_,hh16⟩
  have hk16b : w4.heap.size ≤ k16 := Nat.le_trans hz16 hk16
  try have hne : k16 ≠ k17 := (fun e => by have := K17.lt; omega)
  try have K17 := K17.keep hb16
  try have T17 := T17.keep hb16
  try have R1 := R1.keep hb16
  try have R2 := R2.keep hb16
  try have R3 := R3.keep hb16
  try have R4 := R4.keep hb16
  try simp only [pna,pnb,pnc,pnd,pne]
  refine wpH_op 14 (oi := ⟨none,.store 93 (.tmp 16) (.tmp 49),0,"witness.go:46",#[⟨12,.data⟩,⟨5,.data⟩,⟨11,.chain⟩,⟨0,.phase⟩,⟨1,.phase⟩,⟨2,.phase⟩,⟨3,.phase⟩,⟨4,.phase⟩,⟨5,.phase⟩,{ on := 6,ground := .textOnly Departure.lateStores },{ on := 7,ground := .textOnly Departure.lateStores },{ on := 8,ground := .textOnly Departure.lateStores },{ on := 9,ground := .textOnly Departure.lateStores },{ on := 10,ground := .textOnly Departure.lateStores },{ on := 11,ground := .textOnly Departure.lateStoresUnsure },⟨12,.phase⟩,⟨13,.phase⟩],none⟩) rfl (by kernel_rfl) (by rfl) ?_
  refine wp_rowST row_side (.tmp 16) (.tmp 49) rfl rfl (vs := sdcs hA (.slice xa hA.skips.length xc) da (.slice ya nsa.length yc)) rfl rfl (sdcs_oneO _ _ _ _ _ _ _ _) (us := sdcs hdZ (.slice none 0 0) [] (.slice none 0 0)) rfl K16 T16 ?_
  intro w' K16' T16' m16
  have hzz := hS.size
  refine ⟨Below.mod hS m16 hzz (by simpa using hk16b),?_⟩
  replace hS := Below.mod hS m16 hzz (by simpa using hk16b)
  have K17 := K17.mod m16 (by simpa using hne.symm)
  have R1 := R1.modT m16 T16 (by decide)
  have R2 := R2.modT m16 T16 (by decide)
  have R3 := R3.modT m16 T16 (by decide)
  have R4 := R4.modT m16 T16 (by decide)
  have T17 := T17.mod m16 (by simpa using hne.symm)
  have K16 := K16'
  have T16 := T16'
  try simp only [pna,pnb,pnc,pnd,pne]
  refine wpH_op 15 (oi := ⟨none,.store 93 (.tmp 17) (.tmp 55),0,"witness.go:46",#[⟨13,.data⟩,⟨11,.data⟩,⟨14,.chain⟩,⟨0,.phase⟩,⟨1,.phase⟩,⟨2,.phase⟩,⟨3,.phase⟩,⟨4,.phase⟩,⟨5,.phase⟩,⟨6,.phase⟩,⟨7,.phase⟩,⟨8,.phase⟩,⟨9,.phase⟩,⟨10,.phase⟩,⟨11,.phase⟩,⟨12,.phase⟩,⟨13,.phase⟩,⟨14,.phase⟩],none⟩) rfl (by kernel_rfl) (by rfl) ?_
  refine wp_rowST row_side (.tmp 17) (.tmp 55) rfl rfl (vs := sdcs hB (.slice ua hB.skips.length uc) db (.slice va nsb.length vc)) rfl rfl (sdcs_oneO _ _ _ _ _ _ _ _) (us := sdcs hdZ (.slice none 0 0) [] (.slice none 0 0)) rfl K17 T17 ?_
  intro w' K17' T17' m17
  have hzz := hS.size
  refine ⟨Below.mod hS m17 hzz (by simpa using hk17b),?_⟩
  replace hS := Below.mod hS m17 hzz (by simpa using hk17b)
  have K16 := K16.mod m17 (by simpa using hne)
  have R1 := R1.modT m17 T17 (by decide)
  have R2 := R2.modT m17 T17 (by decide)
  have R3 := R3.modT m17 T17 (by decide)
  have R4 := R4.modT m17 T17 (by decide)
  have K17 := K17'
  try simp only [pna,pnb,pnc,pnd,pne]
  refine wpAnyH_done (by kernel_rfl) ?_ _
  go_wp2_with fail
  go_meet
  exact ⟨k16,k17,xa,ya,ua,va,xc,yc,uc,vc,rfl,rfl,hk16b,hk17b,Lib.hid K16,Lib.hid K17,Lib.hid R1,Lib.hid R2,Lib.hid R3,Lib.hid R4,Lib.hid hS⟩
  refine wpO_op (oi := ⟨some 16,.alloc 93,0,"witness.go:46",#[],none⟩) rfl (by rfl) ?_
  refine wp_newK 93 (sdcs hdZ (.slice none 0 0) [] (.slice none 0 0)).toArray (fun k => .pointer (some ⟨k,0,none⟩)) (fun w => by kernel_rfl) ?_
  intro k16 w' hk16 hh16 hl16 hb16
  have hz16 := hS.size
  refine ⟨hS.trans (hb16.mono hS.size),?_⟩
  replace hS := hS.trans (hb16.mono hS.size)
  have K16 := Blk.of_heap hh16 hl16
  have T16 : Typ w' k16 93 := ⟨_,hh16⟩
  have hk16b : w4.heap.size ≤ k16 := Nat.le_trans hz16 hk16
  try have hne : k16 ≠ k17 := (fun e => by have := K17.lt; omega)
  try have K17 := K17.keep hb16
  try have T17 := T17.keep hb16
  try have R1 := R1.keep hb16
  try have R2 := R2.keep hb16
  try have R3 := R3.keep hb16
  try have R4 := R4.keep hb16
  try simp only [pna,pnb,pnc,pnd,pne]
  refine wpH_call 11 (oi := ⟨some 55,.call { callee := .value (.func 54),args := #[.tmp 54],argTypes := #[93] },93,"witness.go:46",#[⟨10,.data⟩,⟨5,.chain⟩],none⟩) rfl (by kernel_rfl) (by rfl) (own_low (qb _ hS) hS.size) ?_ ?_
  ·(go_simp; try rfl)
  rintro e w' ⟨ua,uc,va,vc,rfl,R3,R4,hbx⟩
  refine ⟨_,rfl,hS.trans (hbx.mono hS.size),?_⟩
  replace hS := hS.trans (hbx.mono hS.size)
  have R1 := R1.keep hbx
  have R2 := R2.keep hbx
  try have K16 := K16.keep hbx
  try have T16 := T16.keep hbx
  try have K17 := K17.keep hbx
  try have T17 := T17.keep hbx
  try simp only [pna,pnb,pnc,pnd,pne]
  refine wpH_op 14 (oi := ⟨none,.store 93 (.tmp 16) (.tmp 49),0,"witness.go:46",#[⟨12,.data⟩,⟨5,.data⟩,⟨11,.chain⟩,⟨0,.phase⟩,⟨1,.phase⟩,⟨2,.phase⟩,⟨3,.phase⟩,⟨4,.phase⟩,⟨5,.phase⟩,{ on := 6,ground := .textOnly Departure.lateStores },{ on := 7,ground := .textOnly Departure.lateStores },{ on := 8,ground := .textOnly Departure.lateStores },{ on := 9,ground := .textOnly Departure.lateStores },{ on := 10,ground := .textOnly Departure.lateStores },{ on := 11,ground := .textOnly Departure.lateStoresUnsure },⟨12,.phase⟩,⟨13,.phase⟩],none⟩) rfl (by kernel_rfl) (by rfl) ?_
  refine wp_rowST row_side (.tmp 16) (.tmp 49) rfl rfl (vs := sdcs hA (.slice xa hA.skips.length xc) da (.slice ya nsa.length yc)) rfl rfl (sdcs_oneO _ _ _ _ _ _ _ _) (us := sdcs hdZ (.slice none 0 0) [] (.slice none 0 0)) rfl K16 T16 ?_
  intro w' K16' T16' m16
  have hzz := hS.size
  refine ⟨Below.mod hS m16 hzz (by simpa using hk16b),?_⟩
  replace hS := Below.mod hS m16 hzz (by simpa using hk16b)
  have K17 := K17.mod m16 (by simpa using hne.symm)
  have R1 := R1.modT m16 T16 (by decide)
  have R2 := R2.modT m16 T16 (by decide)
  have R3 := R3.modT m16 T16 (by decide)
  have R4 := R4.modT m16 T16 (by decide)
  have T17 := T17.mod m16 (by simpa using hne.symm)
  have K16 := K16'
  have T16 := T16'
  try simp only [pna,pnb,pnc,pnd,pne]
  refine wpH_op 15 (oi := ⟨none,.store 93 (.tmp 17) (.tmp 55),0,"witness.go:46",#[⟨13,.data⟩,⟨11,.data⟩,⟨14,.chain⟩,⟨0,.phase⟩,⟨1,.phase⟩,⟨2,.phase⟩,⟨3,.phase⟩,⟨4,.phase⟩,⟨5,.phase⟩,⟨6,.phase⟩,⟨7,.phase⟩,⟨8,.phase⟩,⟨9,.phase⟩,⟨10,.phase⟩,⟨11,.phase⟩,⟨12,.phase⟩,⟨13,.phase⟩,⟨14,.phase⟩],none⟩) rfl (by kernel_rfl) (by rfl) ?_
  refine wp_rowST row_side (.tmp 17) (.tmp 55) rfl rfl (vs := sdcs hB (.slice ua hB.skips.length uc) db (.slice va nsb.length vc)) rfl rfl (sdcs_oneO _ _ _ _ _ _ _ _) (us := sdcs hdZ (.slice none 0 0) [] (.slice none 0 0)) rfl K17 T17 ?_
  intro w' K17' T17' m17
  have hzz := hS.size
  refine ⟨Below.mod hS m17 hzz (by simpa using hk17b),?_⟩
  replace hS := Below.mod hS m17 hzz (by simpa using hk17b)
  have K16 := K16.mod m17 (by simpa using hne)
  have R1 := R1.modT m17 T17 (by decide)
  have R2 := R2.modT m17 T17 (by decide)
  have R3 := R3.modT m17 T17 (by decide)
  have R4 := R4.modT m17 T17 (by decide)
  have K17 := K17'
  try simp only [pna,pnb,pnc,pnd,pne]
  refine wpAnyH_done (by kernel_rfl) ?_ _
  go_wp2_with fail
  go_meet
  exact ⟨k16,k17,xa,ya,ua,va,xc,yc,uc,vc,rfl,rfl,hk16b,hk17b,Lib.hid K16,Lib.hid K17,Lib.hid R1,Lib.hid R2,Lib.hid R3,Lib.hid R4,Lib.hid hS⟩
  refine wpO_op (oi := ⟨some 16,.alloc 93,0,"witness.go:46",#[],none⟩) rfl (by rfl) ?_
  refine wp_newK 93 (sdcs hdZ (.slice none 0 0) [] (.slice none 0 0)).toArray (fun k => .pointer (some ⟨k,0,none⟩)) (fun w => by kernel_rfl) ?_
  intro k16 w' hk16 hh16 hl16 hb16
  have hz16 := hS.size
  refine ⟨hS.trans (hb16.mono hS.size),?_⟩
  replace hS := hS.trans (hb16.mono hS.size)
  have K16 := Blk.of_heap hh16 hl16
  have T16 : Typ w' k16 93 := ⟨_,hh16⟩
  have hk16b : w4.heap.size ≤ k16 := Nat.le_trans hz16 hk16
  try have hne : k16 ≠ k17 := (fun e => by have := K17.lt; omega)
  try have K17 := K17.keep hb16
  try have T17 := T17.keep hb16
  try have R1 := R1.keep hb16
  try have R2 := R2.keep hb16
  try have R3 := R3.keep hb16
  try have R4 := R4.keep hb16
  try simp only [pna,pnb,pnc,pnd,pne]
  refine wpH_call 5 (oi := ⟨some 49,.call { callee := .value (.func 54),args := #[.tmp 48],argTypes := #[93] },93,"witness.go:46",#[⟨4,.data⟩],none⟩) rfl (by kernel_rfl) (by rfl) (own_low (qa _ hS) hS.size) ?_ ?_
  ·(go_simp; try rfl)
  rintro e w' ⟨xa,xc,ya,yc,rfl,R1,R2,hbx⟩
  refine ⟨_,rfl,hS.trans (hbx.mono hS.size),?_⟩
  replace hS := hS.trans (hbx.mono hS.size)
  try have K16 := K16.keep hbx
  try have T16 := T16.keep hbx
  try have K17 := K17.keep hbx
  try have T17 := T17.keep hbx
  try simp only [pna,pnb,pnc,pnd,pne]
  refine wpH_call 11 (oi := ⟨some 55,.call { callee := .value (.func 54),args := #[.tmp 54],argTypes := #[93] },93,"witness.go:46",#[⟨10,.data⟩,⟨5,.chain⟩],none⟩) rfl (by kernel_rfl) (by rfl) (own_low (qb _ hS) hS.size) ?_ ?_
  ·(go_simp; try rfl)
  rintro e w' ⟨ua,uc,va,vc,rfl,R3,R4,hbx⟩
  refine ⟨_,rfl,hS.trans (hbx.mono hS.size),?_⟩
  replace hS := hS.trans (hbx.mono hS.size)
  have R1 := R1.keep hbx
  have R2 := R2.keep hbx
  try have K16 := K16.keep hbx
  try have T16 := T16.keep hbx
  try have K17 := K17.keep hbx
  try have T17 := T17.keep hbx
  try simp only [pna,pnb,pnc,pnd,pne]
  refine wpH_op 14 (oi := ⟨none,.store 93 (.tmp 16) (.tmp 49),0,"witness.go:46",#[⟨12,.data⟩,⟨5,.data⟩,⟨11,.chain⟩,⟨0,.phase⟩,⟨1,.phase⟩,⟨2,.phase⟩,⟨3,.phase⟩,⟨4,.phase⟩,⟨5,.phase⟩,{ on := 6,ground := .textOnly Departure.lateStores },{ on := 7,ground := .textOnly Departure.lateStores },{ on := 8,ground := .textOnly Departure.lateStores },{ on := 9,ground := .textOnly Departure.lateStores },{ on := 10,ground := .textOnly Departure.lateStores },{ on := 11,ground := .textOnly Departure.lateStoresUnsure },⟨12,.phase⟩,⟨13,.phase⟩],none⟩) rfl (by kernel_rfl) (by rfl) ?_
  refine wp_rowST row_side (.tmp 16) (.tmp 49) rfl rfl (vs := sdcs hA (.slice xa hA.skips.length xc) da (.slice ya nsa.length yc)) rfl rfl (sdcs_oneO _ _ _ _ _ _ _ _) (us := sdcs hdZ (.slice none 0 0) [] (.slice none 0 0)) rfl K16 T16 ?_
  intro w' K16' T16' m16
  have hzz := hS.size
  refine ⟨Below.mod hS m16 hzz (by simpa using hk16b),?_⟩
  replace hS := Below.mod hS m16 hzz (by simpa using hk16b)
  have K17 := K17.mod m16 (by simpa using hne.symm)
  have R1 := R1.modT m16 T16 (by decide)
  have R2 := R2.modT m16 T16 (by decide)
  have R3 := R3.modT m16 T16 (by decide)
  have R4 := R4.modT m16 T16 (by decide)
  have T17 := T17.mod m16 (by simpa using hne.symm)
  have K16 := K16'
  have T16 := T16'
  try simp only [pna,pnb,pnc,pnd,pne]
  refine wpH_op 15 (oi := ⟨none,.store 93 (.tmp 17) (.tmp 55),0,"witness.go:46",#[⟨13,.data⟩,⟨11,.data⟩,⟨14,.chain⟩,⟨0,.phase⟩,⟨1,.phase⟩,⟨2,.phase⟩,⟨3,.phase⟩,⟨4,.phase⟩,⟨5,.phase⟩,⟨6,.phase⟩,⟨7,.phase⟩,⟨8,.phase⟩,⟨9,.phase⟩,⟨10,.phase⟩,⟨11,.phase⟩,⟨12,.phase⟩,⟨13,.phase⟩,⟨14,.phase⟩],none⟩) rfl (by kernel_rfl) (by rfl) ?_
  refine wp_rowST row_side (.tmp 17) (.tmp 55) rfl rfl (vs := sdcs hB (.slice ua hB.skips.length uc) db (.slice va nsb.length vc)) rfl rfl (sdcs_oneO _ _ _ _ _ _ _ _) (us := sdcs hdZ (.slice none 0 0) [] (.slice none 0 0)) rfl K17 T17 ?_
  intro w' K17' T17' m17
  have hzz := hS.size
  refine ⟨Below.mod hS m17 hzz (by simpa using hk17b),?_⟩
  replace hS := Below.mod hS m17 hzz (by simpa using hk17b)
  have K16 := K16.mod m17 (by simpa using hne)
  have R1 := R1.modT m17 T17 (by decide)
  have R2 := R2.modT m17 T17 (by decide)
  have R3 := R3.modT m17 T17 (by decide)
  have R4 := R4.modT m17 T17 (by decide)
  have K17 := K17'
  try simp only [pna,pnb,pnc,pnd,pne]
  refine wpAnyH_done (by kernel_rfl) ?_ _
  go_wp2_with fail
  go_meet
  exact ⟨k16,k17,xa,ya,ua,va,xc,yc,uc,vc,rfl,rfl,hk16b,hk17b,Lib.hid K16,Lib.hid K17,Lib.hid R1,Lib.hid R2,Lib.hid R3,Lib.hid R4,Lib.hid hS⟩
 case rest =>
  obtain ⟨k16,k17,xa,ya,ua,va,xc,yc,uc,vc,rfl,rfl,hk16b,hk17b,HK16,HK17,HR1,HR2,HR3,HR4,HBB⟩ := hcut
  obtain ⟨w5,hw5⟩ : ∃ w',w' = wc := ⟨_,rfl⟩
  subst hw5
  have hb := HBB.out
  have hb5 := hb4.trans (hb.mono hb4.size)
  have B5 := B5.keep hb
  have B10 := B10.keep hb
  have B11 := B11.keep hb
  have T10 := T10.keep hb
  have T11 := T11.keep hb
  have N13 := N13.keep hb
  have SKA := Lib.hid (SKA.out.keep hb)
  have hs5 := Nat.le_trans hs4 hb.size
  clear B6 B7 N15 rA rB rc6 rc7 l6 l7 l13 l15 qa qb hb hb4 HBB SKB
  have qa := fun W (hW : Below w5.heap.size w5 W) => wkey_any hA xa xc da (.slice ya nsa.length yc) W (HR1.out.ss.keep hW) (HKT.out.keep (hb5.trans (hW.mono hb5.size)))
  have qb := fun W (hW : Below w5.heap.size w5 W) => wkey_any hB ua uc db (.slice va nsb.length vc) W (HR3.out.ss.keep hW) (HKT.out.keep (hb5.trans (hW.mono hb5.size)))
  have HC0 : Hid (cmpC 0 0 hA hB = if hA.height = hB.height ∧ dgH hA = dgH hB then 0 else if hA.height ≠ hB.height then 4 else 370) := Lib.hid (by unfold cmpC; rw [if_neg (by simp),if_neg (by simp)])
  generalize dgH hA = ga at *
  generalize dgH hB = gb at *
  have x16 := HK16.out.lt
  have x17 := HK17.out.lt
  by_cases e1 : hA.height = hB.height
  ·by_cases e2 : ga = gb
   ·have HC : Hid (cmpC 0 0 hA hB = 0) := Lib.hid (by rw [HC0.out,if_pos ⟨e1,e2⟩])
    have d1 : decide (hA.height = hB.height) = true := by simpa using e1
    have d2 : decide (ga = gb) = true := by simpa using e2
    clear e1 e2 HC0
    go_upto_region 8 with fail
    refine wpH_start (by kernel_rfl) (fun hS => ?_)
    refine wpH_row row_side 0 (oi := ⟨some 57,.load 93 (.tmp 16),93,"witness.go:48",#[],none⟩) rfl (by kernel_rfl) (by kernel_rfl) (by kernel_rfl) (by rfl) hS (vs := sdcs hA (.slice xa hA.skips.length xc) da (.slice ya nsa.length yc)) (fun _ _ _ h => h) (.tmp 16) rfl rfl (rfl) (fun w' hb2 => HK16.out.keep hb2) ?_
    try simp only [pna,pnb,pnc,pnd,pne]
    refine wpH_row row_side 2 (oi := ⟨some 59,.load 93 (.tmp 17),93,"witness.go:48",#[],none⟩) rfl (by kernel_rfl) (by kernel_rfl) (by kernel_rfl) (by rfl) hS (vs := sdcs hB (.slice ua hB.skips.length uc) db (.slice va nsb.length vc)) (fun _ _ _ h => h) (.tmp 17) rfl rfl (rfl) (fun w' hb2 => HK17.out.keep hb2) ?_
    try simp only [pna,pnb,pnc,pnd,pne]
    refine wpH_call 1 (oi := ⟨some 58,.call { callee := .value (.func 39),args := #[.tmp 57],argTypes := #[93] },98,"witness.go:48",#[⟨0,.data⟩],none⟩) rfl (by kernel_rfl) (by rfl) (qa _ hS) ?_ ?_
    ·(go_simp; try rfl)
    rintro e w' ⟨rfl,hbx⟩
    refine ⟨_,rfl,hS.trans (hbx.mono hS.size),?_⟩
    replace hS := hS.trans (hbx.mono hS.size)
    try simp only [pna,pnb,pnc,pnd,pne]
    refine wpH_call 3 (oi := ⟨some 60,.call { callee := .value (.func 39),args := #[.tmp 59],argTypes := #[93] },98,"witness.go:48",#[⟨2,.data⟩,⟨1,.chain⟩],none⟩) rfl (by kernel_rfl) (by rfl) (qb _ hS) ?_ ?_
    ·(go_simp; try rfl)
    rintro e w' ⟨rfl,hbx⟩
    refine ⟨_,rfl,hS.trans (hbx.mono hS.size),?_⟩
    replace hS := hS.trans (hbx.mono hS.size)
    try simp only [pna,pnb,pnc,pnd,pne]
    (refine hP 4 ?_ ⟨some 61,.binOp .eql 98 (.tmp 58) (.tmp 60) 98,4,"",#[],none⟩ hS ?_ ?_; rotate_left; focus (intro w; go_simp; try with_reducible rfl))
    try simp only [pna,pnb,pnc,pnd,pne]
    (refine hP 5 ?_ ⟨some 56,.assign (.tmp 61),4,"",#[],none⟩ hS ?_ ?_; rotate_left; focus (intro w; go_simp; try with_reducible rfl))
    try simp only [pna,pnb,pnc,pnd,pne]
    refine wpAnyH_done (by kernel_rfl) ?_ _
    have hb6 := hb5.trans (hS.mono hb5.size)
    have B10 := B10.keep hS
    have B11 := B11.keep hS
    have T10 := T10.keep hS
    have T11 := T11.keep hS
    have r13 := (N13.keep hS).range
    have SK6 := SKA.out.keep hS
    have hs6 := Nat.le_trans hs5 hS.size
    go_wp2_with (first
     | (refine wpList_rowR row_tr rfl (.tmp 13) rfl rfl (vs := trv hA (.slice a1 hA.skips.length c1) (.slice a2 nxa.length c2) 0) rfl r13 ?_)
     | (refine wpList_rowStoreT row_tr rfl rfl (.tmp 10) (.tmp 62) rfl rfl (vs := trv hA (.slice a1 hA.skips.length c1) (.slice a2 nxa.length c2) 0) rfl rfl (trv_one _ _ _ _ _ _ _ _) (us := trv hdZ (.slice none 0 0) (.slice none 0 0) 0) rfl B10 T10 ?_; intro wy Ny Ty my)
     | (refine wpList_rowStoreT row_ev rfl rfl (.tmp 11) (.tmp 63) rfl rfl (vs := evcs (.slice none 0 0) hdZ (.slice none 0 0) hdZ (.slice none 0 0) [] (.slice none 0 0) [] (.slice none 0 0)) rfl rfl ev_one0 (us := evcs (.slice none 0 0) hdZ (.slice none 0 0) hdZ (.slice none 0 0) [] (.slice none 0 0) [] (.slice none 0 0)) rfl (B11.mod my (by simp)) (T11.mod my (by simp)) ?_; intro wz Nz Tz mz)
     | fail)
    refine bodyPost_ret (results_c2 rfl _ _ _ _ _ _ rfl rfl (row_loadVar row_tr _ rfl (Ny.mod mz (by simp))) (row_loadVar row_ev _ rfl Nz)) rfl ?_
    have hfin := Below.mod (Below.mod hb6 my hb6.size (by simp; omega)) mz (by have h1 := hb6.size; have h2 := my.size; omega) (by simp; omega)
    refine ⟨hfin,fun _ => ⟨a1,c1,a2,nxa.length,c2,rfl,?_⟩,fun h => absurd (HC.out.symm.trans h) (by decide),fun h => absurd HC.out h⟩
    exact ((SK6.mod my (by omega)).mod mz (by omega)).ss
   ·have HC : Hid (cmpC 0 0 hA hB = 370) := Lib.hid (by rw [HC0.out,if_neg (fun x => e2 x.2),if_neg (by simpa using e1)])
    have d1 : decide (hA.height = hB.height) = true := by simpa using e1
    have d2 : decide (ga = gb) = false := by simpa using e2
    have d3 : (hA.height != hB.height) = false := by simpa using e1
    clear e1 e2 HC0
    go_upto_region 8 with fail
    refine wpH_start (by kernel_rfl) (fun hS => ?_)
    refine wpH_row row_side 0 (oi := ⟨some 57,.load 93 (.tmp 16),93,"witness.go:48",#[],none⟩) rfl (by kernel_rfl) (by kernel_rfl) (by kernel_rfl) (by rfl) hS (vs := sdcs hA (.slice xa hA.skips.length xc) da (.slice ya nsa.length yc)) (fun _ _ _ h => h) (.tmp 16) rfl rfl (rfl) (fun w' hb2 => HK16.out.keep hb2) ?_
    try simp only [pna,pnb,pnc,pnd,pne]
    refine wpH_row row_side 2 (oi := ⟨some 59,.load 93 (.tmp 17),93,"witness.go:48",#[],none⟩) rfl (by kernel_rfl) (by kernel_rfl) (by kernel_rfl) (by rfl) hS (vs := sdcs hB (.slice ua hB.skips.length uc) db (.slice va nsb.length vc)) (fun _ _ _ h => h) (.tmp 17) rfl rfl (rfl) (fun w' hb2 => HK17.out.keep hb2) ?_
    try simp only [pna,pnb,pnc,pnd,pne]
    refine wpH_call 1 (oi := ⟨some 58,.call { callee := .value (.func 39),args := #[.tmp 57],argTypes := #[93] },98,"witness.go:48",#[⟨0,.data⟩],none⟩) rfl (by kernel_rfl) (by rfl) (qa _ hS) ?_ ?_
    ·(go_simp; try rfl)
    rintro e w' ⟨rfl,hbx⟩
    refine ⟨_,rfl,hS.trans (hbx.mono hS.size),?_⟩
    replace hS := hS.trans (hbx.mono hS.size)
    try simp only [pna,pnb,pnc,pnd,pne]
    refine wpH_call 3 (oi := ⟨some 60,.call { callee := .value (.func 39),args := #[.tmp 59],argTypes := #[93] },98,"witness.go:48",#[⟨2,.data⟩,⟨1,.chain⟩],none⟩) rfl (by kernel_rfl) (by rfl) (qb _ hS) ?_ ?_
    ·(go_simp; try rfl)
    rintro e w' ⟨rfl,hbx⟩
    refine ⟨_,rfl,hS.trans (hbx.mono hS.size),?_⟩
    replace hS := hS.trans (hbx.mono hS.size)
    try simp only [pna,pnb,pnc,pnd,pne]
    (refine hP 4 ?_ ⟨some 61,.binOp .eql 98 (.tmp 58) (.tmp 60) 98,4,"",#[],none⟩ hS ?_ ?_; rotate_left; focus (intro w; go_simp; try with_reducible rfl))
    try simp only [pna,pnb,pnc,pnd,pne]
    (refine hP 5 ?_ ⟨some 56,.assign (.tmp 61),4,"",#[],none⟩ hS ?_ ?_; rotate_left; focus (intro w; go_simp; try with_reducible rfl))
    try simp only [pna,pnb,pnc,pnd,pne]
    refine wpAnyH_done (by kernel_rfl) ?_ _
    obtain ⟨w6,hw6⟩ := Below.name hS
    subst hw6
    have hb := hS
    have hb6 := hb5.trans (hb.mono hb5.size)
    have B5 := B5.keep hb
    have B10 := B10.keep hb
    have B11 := B11.keep hb
    have T10 := T10.keep hb
    have T11 := T11.keep hb
    have K16 := HK16.out.keep hb
    have K17 := HK17.out.keep hb
    have HR1 := Lib.hid (HR1.out.keep hb)
    have HR2 := Lib.hid (HR2.out.keep hb)
    have HR3 := Lib.hid (HR3.out.keep hb)
    have HR4 := Lib.hid (HR4.out.keep hb)
    have hs6 := Nat.le_trans hs5 hb.size
    have qa2 := fun W (hW : Below w6.heap.size w6 W) => qa W (hb.trans (hW.mono hb.size))
    have qb2 := fun W (hW : Below w6.heap.size w6 W) => qb W (hb.trans (hW.mono hb.size))
    clear hS
    go_upto_region 10 with fail
    refine wpH_start (by kernel_rfl) (fun hS => ?_)
    refine wpH_row row_side 0 (oi := ⟨some 65,.load 93 (.tmp 16),93,"witness.go:50",#[],none⟩) rfl (by kernel_rfl) (by kernel_rfl) (by kernel_rfl) (by rfl) hS (vs := sdcs hA (.slice xa hA.skips.length xc) da (.slice ya nsa.length yc)) (fun _ _ _ h => h) (.tmp 16) rfl rfl (rfl) (fun w' hb2 => K16.keep hb2) ?_
    try simp only [pna,pnb,pnc,pnd,pne]
    refine wpH_row row_side 3 (oi := ⟨some 68,.load 93 (.tmp 17),93,"witness.go:50",#[],none⟩) rfl (by kernel_rfl) (by kernel_rfl) (by kernel_rfl) (by rfl) hS (vs := sdcs hB (.slice ua hB.skips.length uc) db (.slice va nsb.length vc)) (fun _ _ _ h => h) (.tmp 17) rfl rfl (rfl) (fun w' hb2 => K17.keep hb2) ?_
    try simp only [pna,pnb,pnc,pnd,pne]
    refine wpH_call 1 (oi := ⟨some 66,.call { callee := .value (.func 39),args := #[.tmp 65],argTypes := #[93] },98,"witness.go:50",#[⟨0,.data⟩],none⟩) rfl (by kernel_rfl) (by rfl) (qa2 _ hS) ?_ ?_
    ·(go_simp; try rfl)
    rintro e w' ⟨rfl,hbx⟩
    refine ⟨_,rfl,hS.trans (hbx.mono hS.size),?_⟩
    replace hS := hS.trans (hbx.mono hS.size)
    try simp only [pna,pnb,pnc,pnd,pne]
    refine wpH_load 2 (.int .i64 hA.height) (oi := ⟨some 67,.field 98 (.tmp 66) 0,3,"witness.go:50",#[⟨1,.data⟩],none⟩) rfl (by kernel_rfl) (by kernel_rfl) (by kernel_rfl) (by rfl) hS (fun _ _ _ h => h) (fun w' hb2 => (by go_simp; try rfl)) ?_
    try simp only [pna,pnb,pnc,pnd,pne]
    refine wpH_call 4 (oi := ⟨some 69,.call { callee := .value (.func 39),args := #[.tmp 68],argTypes := #[93] },98,"witness.go:50",#[⟨3,.data⟩,⟨1,.chain⟩],none⟩) rfl (by kernel_rfl) (by rfl) (qb2 _ hS) ?_ ?_
    ·(go_simp; try rfl)
    rintro e w' ⟨rfl,hbx⟩
    refine ⟨_,rfl,hS.trans (hbx.mono hS.size),?_⟩
    replace hS := hS.trans (hbx.mono hS.size)
    try simp only [pna,pnb,pnc,pnd,pne]
    refine wpH_load 5 (.int .i64 hB.height) (oi := ⟨some 70,.field 98 (.tmp 69) 0,3,"witness.go:50",#[⟨4,.data⟩],none⟩) rfl (by kernel_rfl) (by kernel_rfl) (by kernel_rfl) (by rfl) hS (fun _ _ _ h => h) (fun w' hb2 => (by go_simp; try rfl)) ?_
    try simp only [pna,pnb,pnc,pnd,pne]
    (refine hP 6 ?_ ⟨some 71,.binOp .neq 3 (.tmp 67) (.tmp 70) 3,4,"",#[],none⟩ hS ?_ ?_; rotate_left; focus (intro w; go_simp; try with_reducible rfl))
    try simp only [pna,pnb,pnc,pnd,pne]
    (refine hP 7 ?_ ⟨some 64,.assign (.tmp 71),4,"",#[],none⟩ hS ?_ ?_; rotate_left; focus (intro w; go_simp; try with_reducible rfl))
    try simp only [pna,pnb,pnc,pnd,pne]
    refine wpAnyH_done (by kernel_rfl) ?_ _
    obtain ⟨w7,hw7⟩ := Below.name hS
    subst hw7
    have hb := hS
    have hb7 := hb6.trans (hb.mono hb6.size)
    have B5 := B5.keep hb
    have B10 := B10.keep hb
    have B11 := B11.keep hb
    have T10 := T10.keep hb
    have T11 := T11.keep hb
    have K16 := K16.keep hb
    have K17 := K17.keep hb
    have HR1 := Lib.hid (HR1.out.keep hb)
    have HR2 := Lib.hid (HR2.out.keep hb)
    have HR3 := Lib.hid (HR3.out.keep hb)
    have HR4 := Lib.hid (HR4.out.keep hb)
    have hs7 := Nat.le_trans hs6 hb.size
    clear hS hb qa2 qb2 qa qb
    go_upto_region 12 with fail
    have qm := fun W (hW : Below w7.heap.size w7 W) => cloneM_any (.slice ma S.length mc) S W (HTM.out.keep (hb7.trans (hW.mono hb7.size))) trivial hSl
    have n16 : k16 ∉ [w.heap.size + 1 + 1 + 1,w.heap.size + 1 + 1 + 1 + 1] := by simp; omega
    have n17 : k17 ∉ [w.heap.size + 1 + 1 + 1,w.heap.size + 1 + 1 + 1 + 1] := by simp; omega
    have n5 : w.heap.size ∉ [w.heap.size + 1 + 1 + 1,w.heap.size + 1 + 1 + 1 + 1] := by simp; omega
    refine wpH_startM [w.heap.size + 1 + 1 + 1,w.heap.size + 1 + 1 + 1 + 1] (by kernel_rfl) (fun hS => ?_)
    (refine hP 0 ?_ ⟨some 74,.build 67 #[],67,"",#[],none⟩ hS ?_ ?_; rotate_left; focus (intro w; go_simp; try with_reducible rfl))
    try simp only [pna,pnb,pnc,pnd,pne]
    (refine hP 1 ?_ ⟨some 75,.fieldAddr 67 (.tmp 5) 1,0,"",#[],none⟩ hS ?_ ?_; rotate_left; focus (intro w; go_simp; try with_reducible rfl))
    try simp only [pna,pnb,pnc,pnd,pne]
    refine wpH_load 2 (.slice ma S.length mc) (oi := ⟨some 76,.load 23 (.tmp 75),23,"witness.go:53",#[⟨1,.data⟩],none⟩) rfl (by kernel_rfl) (by kernel_rfl) (by kernel_rfl) (by rfl) hS (fun _ _ _ h => h) (fun w' hb2 => (by have c := (trv_cells (B5.mod hb2 n5)).2; go_simp; try rfl)) ?_
    try simp only [pna,pnb,pnc,pnd,pne]
    (refine hP 4 ?_ ⟨some 78,.fieldAddr 93 (.tmp 16) 0,0,"",#[],none⟩ hS ?_ ?_; rotate_left; focus (intro w; go_simp; try with_reducible rfl))
    try simp only [pna,pnb,pnc,pnd,pne]
    refine wpH_load 5 (.agg (hcs hA (.slice xa hA.skips.length xc)).toArray) (oi := ⟨some 79,.load 48 (.tmp 78),48,"witness.go:53",#[⟨4,.data⟩,{ on := 13,ground := .gcOnly Departure.lateStores }],none⟩) rfl (by kernel_rfl) (by kernel_rfl) (by kernel_rfl) (by rfl) hS (fun _ _ _ h => h) (fun w' hb2 => exec_rowR row_head (.tmp 78) rfl rfl rfl (sd_head (K16.mod hb2 n16))) ?_
    try simp only [pna,pnb,pnc,pnd,pne]
    (refine hP 6 ?_ ⟨some 80,.fieldAddr 93 (.tmp 17) 0,0,"",#[],none⟩ hS ?_ ?_; rotate_left; focus (intro w; go_simp; try with_reducible rfl))
    try simp only [pna,pnb,pnc,pnd,pne]
    refine wpH_load 7 (.agg (hcs hB (.slice ua hB.skips.length uc)).toArray) (oi := ⟨some 81,.load 48 (.tmp 80),48,"witness.go:53",#[⟨6,.data⟩,{ on := 13,ground := .gcOnly Departure.lateStores }],none⟩) rfl (by kernel_rfl) (by kernel_rfl) (by kernel_rfl) (by rfl) hS (fun _ _ _ h => h) (fun w' hb2 => exec_rowR row_head (.tmp 80) rfl rfl rfl (sd_head (K17.mod hb2 n17))) ?_
    try simp only [pna,pnb,pnc,pnd,pne]
    (refine hP 8 ?_ ⟨some 82,.fieldAddr 93 (.tmp 16) 1,0,"",#[],none⟩ hS ?_ ?_; rotate_left; focus (intro w; go_simp; try with_reducible rfl))
    try simp only [pna,pnb,pnc,pnd,pne]
    refine wpH_load 9 (.agg #[.string ⟨da.toArray⟩,.slice ya nsa.length yc]) (oi := ⟨some 83,.load 37 (.tmp 82),37,"witness.go:53",#[⟨8,.data⟩,{ on := 13,ground := .gcOnly Departure.lateStores }],none⟩) rfl (by kernel_rfl) (by kernel_rfl) (by kernel_rfl) (by rfl) hS (fun _ _ _ h => h) (fun w' hb2 => exec_rowR row_cert (.tmp 82) rfl rfl (vs := [.string ⟨da.toArray⟩,.slice ya nsa.length yc]) rfl (sd_cert (K16.mod hb2 n16))) ?_
    try simp only [pna,pnb,pnc,pnd,pne]
    (refine hP 10 ?_ ⟨some 84,.fieldAddr 93 (.tmp 17) 1,0,"",#[],none⟩ hS ?_ ?_; rotate_left; focus (intro w; go_simp; try with_reducible rfl))
    try simp only [pna,pnb,pnc,pnd,pne]
    refine wpH_load 11 (.agg #[.string ⟨db.toArray⟩,.slice va nsb.length vc]) (oi := ⟨some 85,.load 37 (.tmp 84),37,"witness.go:53",#[⟨10,.data⟩,{ on := 13,ground := .gcOnly Departure.lateStores }],none⟩) rfl (by kernel_rfl) (by kernel_rfl) (by kernel_rfl) (by rfl) hS (fun _ _ _ h => h) (fun w' hb2 => exec_rowR row_cert (.tmp 84) rfl rfl (vs := [.string ⟨db.toArray⟩,.slice va nsb.length vc]) rfl (sd_cert (K17.mod hb2 n17))) ?_
    try simp only [pna,pnb,pnc,pnd,pne]
    refine wpH_call 3 (oi := ⟨some 77,.call { callee := .value (.func 53),args := #[.tmp 76],argTypes := #[23] },23,"witness.go:53",#[⟨2,.data⟩],none⟩) rfl (by kernel_rfl) (by rfl) (qm _ (Below.refl _ _).drew) ?_ ?_
    ·(go_simp; try rfl)
    rintro e w' ⟨mv,rfl,hMv,hbx⟩
    refine ⟨_,rfl,hS.trans (Mod.of_below hbx),?_⟩
    replace hS := hS.trans (Mod.of_below hbx)
    obtain ⟨ra,rc,hmv⟩ := hMv.form
    subst hmv
    have hbm : Below w7.heap.size w7 _ := (Below.refl _ _).drew.trans hbx
    try simp only [pna,pnb,pnc,pnd,pne]
    refine wpH_load 12 (.agg (evcs (.slice ra S.length rc) hA (.slice xa hA.skips.length xc) hB (.slice ua hB.skips.length uc) da (.slice ya nsa.length yc) db (.slice va nsb.length vc)).toArray) (oi := ⟨some 86,.build 54 #[(0,.tmp 77),(1,.tmp 79),(2,.tmp 81),(3,.tmp 83),(4,.tmp 85)],54,"witness.go:53",#[⟨3,.data⟩,⟨5,.data⟩,⟨7,.data⟩,⟨9,.data⟩,⟨11,.data⟩,{ on := 13,ground := .gcOnly Departure.lateStores }],none⟩) rfl (by kernel_rfl) (by kernel_rfl) (by kernel_rfl) (by rfl) hS (fun _ _ _ h => h) (fun w' hb2 => (by kernel_rfl)) ?_
    try simp only [pna,pnb,pnc,pnd,pne]
    refine wpH_op 13 (oi := ⟨none,.store 67 (.tmp 10) (.tmp 74),0,"witness.go:53",#[⟨0,.data⟩,⟨3,.chain⟩,⟨0,.phase⟩,{ on := 1,ground := .textOnly Departure.lateStores },{ on := 2,ground := .textOnly Departure.lateStores },{ on := 3,ground := .textOnly Departure.lateStoresUnsure },{ on := 4,ground := .textOnly Departure.lateStores },{ on := 5,ground := .textOnly Departure.lateStores },{ on := 6,ground := .textOnly Departure.lateStores },{ on := 7,ground := .textOnly Departure.lateStores },{ on := 8,ground := .textOnly Departure.lateStores },{ on := 9,ground := .textOnly Departure.lateStores },{ on := 10,ground := .textOnly Departure.lateStores },{ on := 11,ground := .textOnly Departure.lateStores },{ on := 12,ground := .textOnly Departure.lateStores }],none⟩) rfl (by kernel_rfl) (by rfl) ?_
    refine wp_rowS row_tr (.tmp 10) (.tmp 74) rfl rfl (vs := trv hdZ (.slice none 0 0) (.slice none 0 0) 0) rfl rfl (trv_one _ _ _ _ _ _ _ _) (us := trv hdZ (.slice none 0 0) (.slice none 0 0) 0) rfl (B10.keep hbm) ?_
    intro wy Ny my
    refine ⟨hS.trans (my.sub (by simp)),?_⟩
    replace hS := hS.trans (my.sub (m := [w.heap.size + 1 + 1 + 1,w.heap.size + 1 + 1 + 1 + 1]) (by simp))
    try simp only [pna,pnb,pnc,pnd,pne]
    refine wpH_op 14 (oi := ⟨none,.store 54 (.tmp 11) (.tmp 86),0,"witness.go:53",#[⟨12,.data⟩,⟨13,.chain⟩,⟨0,.phase⟩,⟨1,.phase⟩,⟨2,.phase⟩,⟨3,.phase⟩,⟨4,.phase⟩,⟨5,.phase⟩,⟨6,.phase⟩,⟨7,.phase⟩,⟨8,.phase⟩,⟨9,.phase⟩,⟨10,.phase⟩,⟨11,.phase⟩,⟨12,.phase⟩,⟨13,.phase⟩],none⟩) rfl (by kernel_rfl) (by rfl) ?_
    refine wp_rowS row_ev (.tmp 11) (.tmp 86) rfl rfl (vs := evcs (.slice ra S.length rc) hA (.slice xa hA.skips.length xc) hB (.slice ua hB.skips.length uc) da (.slice ya nsa.length yc) db (.slice va nsb.length vc)) rfl rfl (by simp [evcs,hcs,Value.oneCell']) (us := evcs (.slice none 0 0) hdZ (.slice none 0 0) hdZ (.slice none 0 0) [] (.slice none 0 0) [] (.slice none 0 0)) rfl ((B11.keep hbm).mod my (by simp)) ?_
    intro wz Nz mz
    refine ⟨hS.trans (mz.sub (by simp)),?_⟩
    replace hS := hS.trans (mz.sub (m := [w.heap.size + 1 + 1 + 1,w.heap.size + 1 + 1 + 1 + 1]) (by simp))
    try simp only [pna,pnb,pnc,pnd,pne]
    (refine hP 15 ?_ ⟨some 12,.assign (.const (.int .i64 370)),34,"",#[],none⟩ hS ?_ ?_; rotate_left; focus (intro w; go_simp; try with_reducible rfl))
    try simp only [pna,pnb,pnc,pnd,pne]
    refine wpAnyH_done (by kernel_rfl) ?_ _
    have hmv2 := hMv.low (show w7.heap.size ≤ _ from Nat.le_refl _)
    have hfin := Below.mod (Below.mod (hb7.trans (hbm.mono hb7.size)) my (Nat.le_trans hb7.size hbm.size) (by simp; omega)) mz (by have h1 := Nat.le_trans hb7.size hbm.size; have h2 := my.size; omega) (by simp; omega)
    go_wp2_with fail
    refine bodyPost_ret (results_c2 rfl _ _ _ _ _ _ rfl rfl (row_loadVar row_tr _ rfl (Ny.mod mz (by simp))) (row_loadVar row_ev _ rfl Nz)) rfl ?_
    refine ⟨hfin,fun h => absurd (HC.out.symm.trans h) (by decide),fun _ => ⟨_,xa,xc,ua,uc,ya,yc,va,vc,rfl,?_,?_,?_,?_,?_⟩,fun _ h => absurd HC.out h⟩
    ·exact ((hmv2.mod my (by omega)).mod mz (by omega)).ms
    ·exact (((HR1.out.keep hbm).mod my (by omega)).mod mz (by omega)).ss
    ·exact (((HR3.out.keep hbm).mod my (by omega)).mod mz (by omega)).ss
    ·exact (((HR2.out.keep hbm).mod my (by omega)).mod mz (by omega)).ss
    ·exact (((HR4.out.keep hbm).mod my (by omega)).mod mz (by omega)).ss
  ·have HC : Hid (cmpC 0 0 hA hB = 4) := Lib.hid (by rw [HC0.out,if_neg (fun x => e1 x.1),if_pos e1])
   have d1 : decide (hA.height = hB.height) = false := by simpa using e1
   have d3 : (hA.height != hB.height) = true := by simpa using e1
   clear e1 HC0
   go_upto_region 8 with fail
   refine wpH_start (by kernel_rfl) (fun hS => ?_)
   refine wpH_row row_side 0 (oi := ⟨some 57,.load 93 (.tmp 16),93,"witness.go:48",#[],none⟩) rfl (by kernel_rfl) (by kernel_rfl) (by kernel_rfl) (by rfl) hS (vs := sdcs hA (.slice xa hA.skips.length xc) da (.slice ya nsa.length yc)) (fun _ _ _ h => h) (.tmp 16) rfl rfl (rfl) (fun w' hb2 => HK16.out.keep hb2) ?_
   try simp only [pna,pnb,pnc,pnd,pne]
   refine wpH_row row_side 2 (oi := ⟨some 59,.load 93 (.tmp 17),93,"witness.go:48",#[],none⟩) rfl (by kernel_rfl) (by kernel_rfl) (by kernel_rfl) (by rfl) hS (vs := sdcs hB (.slice ua hB.skips.length uc) db (.slice va nsb.length vc)) (fun _ _ _ h => h) (.tmp 17) rfl rfl (rfl) (fun w' hb2 => HK17.out.keep hb2) ?_
   try simp only [pna,pnb,pnc,pnd,pne]
   refine wpH_call 1 (oi := ⟨some 58,.call { callee := .value (.func 39),args := #[.tmp 57],argTypes := #[93] },98,"witness.go:48",#[⟨0,.data⟩],none⟩) rfl (by kernel_rfl) (by rfl) (qa _ hS) ?_ ?_
   ·(go_simp; try rfl)
   rintro e w' ⟨rfl,hbx⟩
   refine ⟨_,rfl,hS.trans (hbx.mono hS.size),?_⟩
   replace hS := hS.trans (hbx.mono hS.size)
   try simp only [pna,pnb,pnc,pnd,pne]
   refine wpH_call 3 (oi := ⟨some 60,.call { callee := .value (.func 39),args := #[.tmp 59],argTypes := #[93] },98,"witness.go:48",#[⟨2,.data⟩,⟨1,.chain⟩],none⟩) rfl (by kernel_rfl) (by rfl) (qb _ hS) ?_ ?_
   ·(go_simp; try rfl)
   rintro e w' ⟨rfl,hbx⟩
   refine ⟨_,rfl,hS.trans (hbx.mono hS.size),?_⟩
   replace hS := hS.trans (hbx.mono hS.size)
   try simp only [pna,pnb,pnc,pnd,pne]
   (refine hP 4 ?_ ⟨some 61,.binOp .eql 98 (.tmp 58) (.tmp 60) 98,4,"",#[],none⟩ hS ?_ ?_; rotate_left; focus (intro w; go_simp; try with_reducible rfl))
   try simp only [pna,pnb,pnc,pnd,pne]
   (refine hP 5 ?_ ⟨some 56,.assign (.tmp 61),4,"",#[],none⟩ hS ?_ ?_; rotate_left; focus (intro w; go_simp; try with_reducible rfl))
   try simp only [pna,pnb,pnc,pnd,pne]
   refine wpAnyH_done (by kernel_rfl) ?_ _
   obtain ⟨w6,hw6⟩ := Below.name hS
   subst hw6
   have hb := hS
   have hb6 := hb5.trans (hb.mono hb5.size)
   have B5 := B5.keep hb
   have B10 := B10.keep hb
   have B11 := B11.keep hb
   have T10 := T10.keep hb
   have T11 := T11.keep hb
   have K16 := HK16.out.keep hb
   have K17 := HK17.out.keep hb
   have HR1 := Lib.hid (HR1.out.keep hb)
   have HR2 := Lib.hid (HR2.out.keep hb)
   have HR3 := Lib.hid (HR3.out.keep hb)
   have HR4 := Lib.hid (HR4.out.keep hb)
   have hs6 := Nat.le_trans hs5 hb.size
   have qa2 := fun W (hW : Below w6.heap.size w6 W) => qa W (hb.trans (hW.mono hb.size))
   have qb2 := fun W (hW : Below w6.heap.size w6 W) => qb W (hb.trans (hW.mono hb.size))
   clear hS
   go_upto_region 10 with fail
   refine wpH_start (by kernel_rfl) (fun hS => ?_)
   refine wpH_row row_side 0 (oi := ⟨some 65,.load 93 (.tmp 16),93,"witness.go:50",#[],none⟩) rfl (by kernel_rfl) (by kernel_rfl) (by kernel_rfl) (by rfl) hS (vs := sdcs hA (.slice xa hA.skips.length xc) da (.slice ya nsa.length yc)) (fun _ _ _ h => h) (.tmp 16) rfl rfl (rfl) (fun w' hb2 => K16.keep hb2) ?_
   try simp only [pna,pnb,pnc,pnd,pne]
   refine wpH_row row_side 3 (oi := ⟨some 68,.load 93 (.tmp 17),93,"witness.go:50",#[],none⟩) rfl (by kernel_rfl) (by kernel_rfl) (by kernel_rfl) (by rfl) hS (vs := sdcs hB (.slice ua hB.skips.length uc) db (.slice va nsb.length vc)) (fun _ _ _ h => h) (.tmp 17) rfl rfl (rfl) (fun w' hb2 => K17.keep hb2) ?_
   try simp only [pna,pnb,pnc,pnd,pne]
   refine wpH_call 1 (oi := ⟨some 66,.call { callee := .value (.func 39),args := #[.tmp 65],argTypes := #[93] },98,"witness.go:50",#[⟨0,.data⟩],none⟩) rfl (by kernel_rfl) (by rfl) (qa2 _ hS) ?_ ?_
   ·(go_simp; try rfl)
   rintro e w' ⟨rfl,hbx⟩
   refine ⟨_,rfl,hS.trans (hbx.mono hS.size),?_⟩
   replace hS := hS.trans (hbx.mono hS.size)
   try simp only [pna,pnb,pnc,pnd,pne]
   refine wpH_load 2 (.int .i64 hA.height) (oi := ⟨some 67,.field 98 (.tmp 66) 0,3,"witness.go:50",#[⟨1,.data⟩],none⟩) rfl (by kernel_rfl) (by kernel_rfl) (by kernel_rfl) (by rfl) hS (fun _ _ _ h => h) (fun w' hb2 => (by go_simp; try rfl)) ?_
   try simp only [pna,pnb,pnc,pnd,pne]
   refine wpH_call 4 (oi := ⟨some 69,.call { callee := .value (.func 39),args := #[.tmp 68],argTypes := #[93] },98,"witness.go:50",#[⟨3,.data⟩,⟨1,.chain⟩],none⟩) rfl (by kernel_rfl) (by rfl) (qb2 _ hS) ?_ ?_
   ·(go_simp; try rfl)
   rintro e w' ⟨rfl,hbx⟩
   refine ⟨_,rfl,hS.trans (hbx.mono hS.size),?_⟩
   replace hS := hS.trans (hbx.mono hS.size)
   try simp only [pna,pnb,pnc,pnd,pne]
   refine wpH_load 5 (.int .i64 hB.height) (oi := ⟨some 70,.field 98 (.tmp 69) 0,3,"witness.go:50",#[⟨4,.data⟩],none⟩) rfl (by kernel_rfl) (by kernel_rfl) (by kernel_rfl) (by rfl) hS (fun _ _ _ h => h) (fun w' hb2 => (by go_simp; try rfl)) ?_
   try simp only [pna,pnb,pnc,pnd,pne]
   (refine hP 6 ?_ ⟨some 71,.binOp .neq 3 (.tmp 67) (.tmp 70) 3,4,"",#[],none⟩ hS ?_ ?_; rotate_left; focus (intro w; go_simp; try with_reducible rfl))
   try simp only [pna,pnb,pnc,pnd,pne]
   (refine hP 7 ?_ ⟨some 64,.assign (.tmp 71),4,"",#[],none⟩ hS ?_ ?_; rotate_left; focus (intro w; go_simp; try with_reducible rfl))
   try simp only [pna,pnb,pnc,pnd,pne]
   refine wpAnyH_done (by kernel_rfl) ?_ _
   obtain ⟨w7,hw7⟩ := Below.name hS
   subst hw7
   have hb := hS
   have hb7 := hb6.trans (hb.mono hb6.size)
   have B5 := B5.keep hb
   have B10 := B10.keep hb
   have B11 := B11.keep hb
   have T10 := T10.keep hb
   have T11 := T11.keep hb
   have K16 := K16.keep hb
   have K17 := K17.keep hb
   have HR1 := Lib.hid (HR1.out.keep hb)
   have HR2 := Lib.hid (HR2.out.keep hb)
   have HR3 := Lib.hid (HR3.out.keep hb)
   have HR4 := Lib.hid (HR4.out.keep hb)
   have hs7 := Nat.le_trans hs6 hb.size
   clear hS hb qa2 qb2 qa qb
   go_wp2_with (first
    | (refine wpList_rowStoreT row_tr rfl rfl (.tmp 10) (.tmp 72) rfl rfl (vs := trv hdZ (.slice none 0 0) (.slice none 0 0) 0) rfl rfl (trv_one _ _ _ _ _ _ _ _) (us := trv hdZ (.slice none 0 0) (.slice none 0 0) 0) rfl B10 T10 ?_; intro wy Ny Ty my)
    | (refine wpList_rowStoreT row_ev rfl rfl (.tmp 11) (.tmp 73) rfl rfl (vs := evcs (.slice none 0 0) hdZ (.slice none 0 0) hdZ (.slice none 0 0) [] (.slice none 0 0) [] (.slice none 0 0)) rfl rfl ev_one0 (us := evcs (.slice none 0 0) hdZ (.slice none 0 0) hdZ (.slice none 0 0) [] (.slice none 0 0) [] (.slice none 0 0)) rfl (B11.mod my (by simp)) (T11.mod my (by simp)) ?_; intro wz Nz Tz mz)
    | fail)
   refine bodyPost_ret (results_c2 rfl _ _ _ _ _ _ rfl rfl (row_loadVar row_tr _ rfl (Ny.mod mz (by simp))) (row_loadVar row_ev _ rfl Nz)) rfl ?_
   have hfin := Below.mod (Below.mod hb7 my hb7.size (by simp; omega)) mz (by have h1 := hb7.size; have h2 := my.size; omega) (by simp; omega)
   exact CmpO.no hfin HC.out (by decide) (by decide)
end Go.Proofs.YthkpmlfaddlieaaGreatDoor
