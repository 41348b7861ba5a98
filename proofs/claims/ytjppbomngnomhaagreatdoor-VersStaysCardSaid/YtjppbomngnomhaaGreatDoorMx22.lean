/- VWorks, VActL, VLong, VGoesP, UnlB, VStaysP, VWith, VWas. -/
import Derived.Test.YtjppbomngnomhaaGreatDoorMx21
set_option linter.unnecessarySimpa false
set_option linter.unusedSimpArgs false
set_option linter.unusedVariables false
set_option maxRecDepth 100000
set_option maxHeartbeats 32000000
namespace Go.Proofs.YtjppbomngnomhaaGreatDoor
open Go.RowKit Pl
theorem il_one {w : World} {m : Nat} {k v : Bs} (h : w.heap[m]? = some (.cells #[.string ⟨List.toArray k⟩, .string ⟨List.toArray v⟩] 43)) : IL w (.slice (some ⟨m, 0, none⟩) 1 1) [(k, v)] :=
 ⟨some ⟨m, 0, none⟩, 1, rfl, by simp, by unfold maxLen; omega, fun _ => ⟨m, 0, rfl, heap_lt h, isrc_blk h⟩⟩
theorem VAt.low {w w' : World} {B base : Nat} {a : VA} {x : Vs} (h : VAt w base a x) (hm : Mod [a.v, a.rb, a.sb] w w') (hB : B ≤ base) (hs : B ≤ w.heap.size) : Below B w w' :=
 Below.mod (Below.refl _ _) hm hs (by
  intro k hk
  simp only [List.mem_cons, List.not_mem_nil, or_false] at hk
  rcases hk with rfl | rfl | rfl
  ·exact Nat.le_trans hB h.hv
  ·exact Nat.le_trans hB h.hr
  ·exact Nat.le_trans hB h.sto.hb)
theorem works12_any (w : World) (hk : KT w) : Calls Tryz.prog 5 #[] w fun e w' => e = .returned (.bool true) ∧ Below w.heap.size w w' := by
 have HN := Lib.hid (vnew_any w)
 have HK := Lib.hid hk
 have HSR := Lib.hid smA
 have HSB := Lib.hid smB
 have hne : (sA == sB) = false := by simpa using sAB
 have HC1 := Lib.hid (fun (a : VA) (W : World) (v : Value) (hb : w.heap.size ≤ W.heap.size) (h1 : KT W) (h2 : IL W v [([97], [49])]) (h3 : VAt W w.heap.size a vs0) => vcommit_any w.heap.size a vs0 VsOk.start 1 (by omega) v [([97], [49])] (by simp) (by simp [vs0]) (by simp [vs0]) (by simp [vs0]) W hb h1 h2 h3)
 have hokA : VsOk xA := by have := VsOk.start.commit 1 [([97], [49])] (by simp [vs0]); rw [ex_a] at this; exact this
 have hokB : VsOk xB := by have := hokA.commit 2 [([97], [50])] (by simp [xA]); rw [ex_b] at this; exact this
 have HC2 := Lib.hid (fun (a : VA) (W : World) (v : Value) (hb : w.heap.size ≤ W.heap.size) (h1 : KT W) (h2 : IL W v [([97], [50])]) (h3 : VAt W w.heap.size a xA) => vcommit_any w.heap.size a xA hokA 2 (by omega) v [([97], [50])] (by simp) (by simp [xA]) (by simp [xA]) (by simp [xA]) W hb h1 h2 h3)
 rw [ex_a] at HC1
 rw [ex_b] at HC2
 have HA1 := Lib.hid (fun (a : VA) (W : World) (h1 : KT W) (h3 : VAt W w.heap.size a xB) => vat_any w.heap.size a xB hokB.short (fun e he => (hokB.rts e he).1) 1 (by omega) W h1 h3)
 rw [ex_at1] at HA1
 have HP := Lib.hid (fun (a : VA) (W : World) (h1 : KT W) (h3 : VAt W w.heap.size a xB) => vprune_any w.heap.size a xB hokB 2 (by omega) (by simp [xB]) (by simp [xB]) W h1 h3)
 have HX : Hid (∀ S I : List Bs, (∀ r, r ∈ S ↔ ∃ e ∈ stayR xB 2, e.2 = r) → (∀ s, s ∈ I ↔ Rch xB.T S s) → (⟨keepT xB.T I, stayR xB 2, xB.new, xB.last, max xB.below 2, xB.L⟩ : Vs) = xC) := Lib.hid (fun S I h1 h2 => by rw [keep_ex h1 h2, stay_ex]; rfl)
 have hokC : VsOk xC := by
  have hmem : VsOk ⟨keepT xB.T [sB], stayR xB 2, xB.new, xB.last, max xB.below 2, xB.L⟩ := hokB.prune 2 (by omega) [sB]
  rw [stay_ex] at hmem
  have : keepT xB.T [sB] = [(sB, eB)] := by
   unfold keepT
   rw [show xB.T = [(sA, eA), (sB, eB)] from rfl, List.filter_cons, if_neg (by simpa using sAB), List.filter_cons, if_pos (by simp)]
   rfl
  rw [this] at hmem
  exact hmem
 have HA2 := Lib.hid (fun (a : VA) (W : World) (h1 : KT W) (h3 : VAt W w.heap.size a xC) => vat_any w.heap.size a xC hokC.short (fun e he => (hokC.rts e he).1) 1 (by omega) W h1 h3)
 rw [ex_at2] at HA2
 have HA3 := Lib.hid (fun (a : VA) (W : World) (h1 : KT W) (h3 : VAt W w.heap.size a xC) => vat_any w.heap.size a xC hokC.short (fun e he => (hokC.rts e he).1) 2 (by omega) W h1 h3)
 rw [ex_at3] at HA3
 have HT := Lib.hid (fun (a : VA) (W : World) (h3 : VAt W w.heap.size a xC) => vtexts_any w.heap.size a xC (by simp [xC]) W h3)
 rw [show xC.T.length = 1 from rfl] at HT
 have HGN : Hid (xB.R.length - (stayR xB 2).length = 1) := Lib.hid (by rw [stay_ex]; rfl)
 clear hk hokA hokB hokC
 go_enter Tryz.func5, Tryz.ntmps5
 go_wp2_with fail
 refine HN.out.mono ?_
 rintro e w1 ⟨a, rfl, hV1, hb1⟩
 have hh1 : (w1.alloc (.cells #[.string ⟨List.toArray ([97])⟩, .string ⟨List.toArray ([49])⟩] 43)).heap[w1.heap.size]? = some (.cells #[.string ⟨List.toArray ([97])⟩, .string ⟨List.toArray ([49])⟩] 43) := heap_alloc_new _ _
 have hbA : Below w1.heap.size w1 (w1.alloc (.cells #[.string ⟨List.toArray ([97])⟩, .string ⟨List.toArray ([49])⟩] 43)) := Below.allocS (Below.refl _ _) _
 have HB1 := Lib.hid (hb1.trans (hbA.mono hb1.size))
 have HQ1 := Lib.hid (HC1.out a _ _ HB1.out.size (HK.out.keep HB1.out) (il_one hh1) (hV1.keep hbA))
 have HV1 := Lib.hid (hV1.keep hbA)
 clear HN hV1 hb1 hh1 hbA HC1
 go_wp2_with fail
 refine HQ1.out.mono ?_
 rintro e w2 ⟨rfl, hV2, hm2⟩
 have hb2 := HV1.out.low hm2 (Nat.le_refl _) HB1.out.size
 have hs2 := HB1.out.trans hb2
 have hh2 : (w2.alloc (.cells #[.string ⟨List.toArray ([97])⟩, .string ⟨List.toArray ([50])⟩] 43)).heap[w2.heap.size]? = some (.cells #[.string ⟨List.toArray ([97])⟩, .string ⟨List.toArray ([50])⟩] 43) := heap_alloc_new _ _
 have hbA : Below w2.heap.size w2 (w2.alloc (.cells #[.string ⟨List.toArray ([97])⟩, .string ⟨List.toArray ([50])⟩] 43)) := Below.allocS (Below.refl _ _) _
 have HB2 := Lib.hid (hs2.trans (hbA.mono hs2.size))
 have HQ2 := Lib.hid (HC2.out a _ _ HB2.out.size (HK.out.keep HB2.out) (il_one hh2) (hV2.keep hbA))
 have HV2 := Lib.hid (hV2.keep hbA)
 clear hV2 hm2 hb2 hs2 hh2 hbA HC2 HQ1 HV1 HB1
 go_wp2_with fail
 refine HQ2.out.mono ?_
 rintro e w3 ⟨rfl, hV3, hm3⟩
 have HB3 := Lib.hid (HB2.out.trans (HV2.out.low hm3 (Nat.le_refl _) HB2.out.size))
 have HQ3 := Lib.hid (HA1.out a _ (HK.out.keep HB3.out) hV3)
 have HV3 := Lib.hid hV3
 clear hV3 hm3 HQ2 HV2 HB2 HA1
 go_wp2_with fail
 refine HQ3.out.mono ?_
 rintro e w4 ⟨hb4, ⟨h0, _⟩ | ⟨_, pt, rfl, hT4⟩⟩
 ·exact absurd rfl h0
 have HB4 := Lib.hid (HB3.out.trans (hb4.mono HB3.out.size))
 have HV4 := Lib.hid (HV3.out.keep hb4)
 have HR4 := Lib.hid (troot_any pt tA w4 hT4)
 rw [HSR.out] at HR4
 have HQ5 := Lib.hid (HP.out a _ (HK.out.keep HB4.out) HV4.out)
 clear hb4 hT4 HQ3 HV3 HB3 HP
 generalize sA = s1 at *
 generalize sB = s2 at *
 go_wp2_with fail
 refine HR4.out.mono ?_
 rintro e w4' ⟨rfl, rfl⟩
 go_wp2_with fail
 refine HQ5.out.mono ?_
 rintro e w5 ⟨rfl, ⟨S, I, hS, hI, hV5⟩, hm5⟩
 rw [HX.out S I hS hI] at hV5
 rw [HGN.out]
 have HB5 := Lib.hid (HB4.out.trans (HV4.out.low hm5 (Nat.le_refl _) HB4.out.size))
 have HV5 := Lib.hid hV5
 have HQ6 := Lib.hid (HA2.out a _ (HK.out.keep HB5.out) hV5)
 clear hV5 hS hI hm5 HX HGN HB4 HV4 HR4 HQ5 HA2
 go_wp2_with fail
 refine HQ6.out.mono ?_
 rintro e w6 ⟨hb6, ⟨_, rfl⟩ | ⟨h0, _⟩⟩
 rotate_left
 ·exact absurd h0 (by simp)
 have HB6 := Lib.hid (HB5.out.trans (hb6.mono HB5.out.size))
 have HV6 := Lib.hid (HV5.out.keep hb6)
 have HQ7 := Lib.hid (HA3.out a _ (HK.out.keep HB6.out) HV6.out)
 clear hb6 HB5 HV5 HQ6 HA3
 go_wp2_with fail
 refine HQ7.out.mono ?_
 rintro e w7 ⟨hb7, ⟨h0, _⟩ | ⟨_, pu, rfl, hT7⟩⟩
 ·exact absurd rfl h0
 have HB7 := Lib.hid (HB6.out.trans (hb7.mono HB6.out.size))
 have HV7 := Lib.hid (HV6.out.keep hb7)
 have HR7 := Lib.hid (troot_any pu tB w7 hT7)
 rw [HSB.out] at HR7
 have HQ8 := Lib.hid (HT.out a _ HV7.out)
 clear hb7 hT7 HQ7 HV6 HB6 HT
 go_wp2_with fail
 refine HR7.out.mono ?_
 rintro e w8 ⟨rfl, rfl⟩
 go_wp2_with fail
 refine HQ8.out.mono ?_
 rintro e w9 ⟨rfl, hb9⟩
 go_wp2_with fail
 go_ret
 exact ⟨rfl, HB7.out.trans (hb9.mono HB7.out.size)⟩
end Go.Proofs.YtjppbomngnomhaaGreatDoor
namespace Go.Proofs.YtjppbomngnomhaaGreatDoor
open Go.ChangeShapes Go.WideShapes Go.ChangeAt Go.RowKit Pl
structure VAct where
 kind : Int
 h : Int
 l : List It
abbrev vact0 : VAct := ⟨0, 0, []⟩
def I64V (n : Int) : Prop := -9223372036854775808 ≤ n ∧ n ≤ 9223372036854775807
def ItS (l : List It) : Prop := ∀ x ∈ l, x.1.length ≤ 9223372036854775807 ∧ x.2.length ≤ 9223372036854775807
def VSrc (w : World) (g o : Nat) (l : List VAct) : Prop := ∀ i, i < l.length → ∃ vl, w.cell? ⟨g, o + i * 3, none⟩ = some (.int .i64 ((l.getD i vact0).kind)) ∧ w.cell? ⟨g, o + i * 3 + 1, none⟩ = some (.int .i64 ((l.getD i vact0).h)) ∧ w.cell? ⟨g, o + i * 3 + 2, none⟩ = some vl ∧ IL w vl (l.getD i vact0).l
def VL (w : World) (v : Value) (l : List VAct) : Prop :=
 ∃ a cap, v = .slice a l.length cap ∧ l.length ≤ cap ∧ cap ≤ maxLen ∧ (l ≠ [] → ∃ g off, a = some ⟨g, off, none⟩ ∧ g < w.heap.size ∧ VSrc w g off l)
def VFit (l : List VAct) : Prop := ∀ i, i < l.length → I64V (l.getD i vact0).kind ∧ I64V (l.getD i vact0).h ∧ ItS (l.getD i vact0).l
theorem VL.keep {W w : World} {v : Value} {l : List VAct} (h : VL W v l) (hb : Below W.heap.size W w) : VL w v l := by
 obtain ⟨a, cap, h1, h2, h3, h4⟩ := h
 refine ⟨a, cap, h1, h2, h3, fun hl => ?_⟩
 obtain ⟨g, off, e, hg, hc⟩ := h4 hl
 refine ⟨g, off, e, Nat.lt_of_lt_of_le hg hb.size, fun i hi => ?_⟩
 obtain ⟨vl, c1, c2, c3, c4⟩ := hc i hi
 exact ⟨vl, (hb.cell (p := ⟨g, off + i * 3, none⟩) hg).trans c1, (hb.cell (p := ⟨g, off + i * 3 + 1, none⟩) hg).trans c2, (hb.cell (p := ⟨g, off + i * 3 + 2, none⟩) hg).trans c3, c4.keep hb⟩
theorem VL.form {w : World} {v : Value} {l : List VAct} (h : VL w v l) : ∃ a c, v = .slice a l.length c := by
 obtain ⟨a, c, e, _⟩ := h
 exact ⟨a, c, e⟩
theorem VL.small {w : World} {v : Value} {l : List VAct} (h : VL w v l) : l.length ≤ 9223372036854775807 := by
 obtain ⟨a, c, e, h1, h2, _⟩ := h
 unfold maxLen at h2
 omega
theorem VL.at {w : World} {a : Option Addr} {c : Nat} {l : List VAct} (h : VL w (.slice a l.length c) l) (i : Nat) (hi : i < l.length) :
  ∃ g off va vc, a = some ⟨g, off, none⟩ ∧ g < w.heap.size ∧ w.cell? ⟨g, off + i * 3, none⟩ = some (.int .i64 ((l.getD i vact0).kind)) ∧ w.cell? ⟨g, off + i * 3 + 1, none⟩ = some (.int .i64 ((l.getD i vact0).h)) ∧ w.cell? ⟨g, off + i * 3 + 2, none⟩ = some (.slice va (l.getD i vact0).l.length vc) ∧ IL w (.slice va (l.getD i vact0).l.length vc) (l.getD i vact0).l := by
 obtain ⟨a', c', e, h1, h2, h4⟩ := h
 injection e with e _ _
 obtain ⟨g, off, e2, hg, hs⟩ := h4 (by intro e; rw [e] at hi; simp at hi)
 obtain ⟨vl, c1, c2, c3, c4⟩ := hs i hi
 obtain ⟨va, vc, rfl⟩ := c4.form
 exact ⟨g, off, va, vc, e.trans e2, hg, c1, c2, c3, c4⟩
theorem one_ofV {w : World} {s : Sh} {cs : List Value} (h : s.Ok w cs) (h1 : s.cells = 1) : ∃ v, cs = [v] := by
 have := h.len
 rw [h1] at this
 exact List.length_eq_one_iff.1 this
theorem wf_i64V {k : Int} (h : (Lit.int .i64 k).wf = true) : I64V k := by
 have h1 : IntKind.i64.min = -9223372036854775808 := by decide
 have h2 : IntKind.i64.max = 9223372036854775807 := by decide
 unfold I64V
 simpa only [Lit.wf, Bool.and_eq_true, decide_eq_true_eq, h1, h2] using h
theorem vl_val {W : World} {v : Value} (h : Sh.Val W (.slice 3 (.pair (.int .i64) (.pair (.int .i64) (.pair (.slice 2 (.pair .str (.pair .str .unit))) .unit)))) v) : ∃ l : List VAct, VL W v l ∧ VFit l := by
 rcases (show _ ∨ _ from h) with h | ⟨a, len, cap, hv, hlc, hcm, hel⟩
 ·obtain rfl : v = .slice none 0 0 := by simpa using h
  exact ⟨[], ⟨none, 0, rfl, Nat.le_refl _, by unfold maxLen; omega, fun h => absurd rfl h⟩, fun i hi => by simp at hi⟩
 ·obtain rfl : v = .slice (some a) len cap := by simpa using hv
  rcases Nat.eq_zero_or_pos len with h0 | hpos
  ·subst h0
   exact ⟨[], ⟨some a, cap, rfl, hlc, hcm, fun h => absurd rfl h⟩, fun i hi => by simp at hi⟩
  ·obtain ⟨hs, hc⟩ := slice_cells (by decide) hpos hel
   have hf : ∀ i, ∃ x : VAct, i < len → (∃ vl, (∀ j, j < 3 → W.cell? ⟨a.block, a.off + i * 3 + j, none⟩ = ([.int .i64 x.kind, .int .i64 x.h, vl] : List Value)[j]?) ∧ IL W vl x.l) ∧ I64V x.kind ∧ I64V x.h ∧ ItS x.l := by
    intro i
    by_cases hi : i < len
    ·obtain ⟨cs, ⟨x1, y1, rfl, ⟨n1, rfl, hn1⟩, x2, y2, rfl, ⟨n2, rfl, hn2⟩, x3, y3, rfl, hz1, hu⟩, _, hj⟩ := hc i hi
     obtain rfl : y3 = [] := hu
     obtain ⟨vl, rfl⟩ := one_ofV hz1 rfl
     obtain ⟨ll, hll, hss⟩ := item_val (v := vl) hz1
     exact ⟨⟨n1, n2, ll⟩, fun _ => ⟨⟨vl, hj, hll⟩, wf_i64V hn1, wf_i64V hn2, hss⟩⟩
    ·exact ⟨vact0, fun h => absurd h hi⟩
   obtain ⟨f, hf⟩ := Classical.axiomOfChoice hf
   obtain ⟨b, off, sp⟩ := a
   simp only at hs
   subst hs
   have hg : ∀ i, i < len → ((List.range len).map f).getD i vact0 = f i := fun i hi' => by simp [List.getD, hi']
   refine ⟨(List.range len).map f, ⟨some ⟨b, off, none⟩, cap, by simp, by simpa using hlc, hcm, fun _ => ⟨b, off, rfl, ?_, fun i hi => ?_⟩⟩, fun i hi => ?_⟩
   ·obtain ⟨⟨vl, hh, _⟩, _⟩ := hf 0 hpos
    have := hh 0 (by omega)
    simp only [List.getElem?_cons_zero] at this
    exact cell_ltI this
   ·have hi' : i < len := by simpa using hi
    obtain ⟨⟨vl, hh, r⟩, _⟩ := hf i hi'
    rw [hg i hi']
    exact ⟨vl, hh 0 (by omega), hh 1 (by omega), hh 2 (by omega), r⟩
   ·have hi' : i < len := by simpa using hi
    rw [hg i hi']
    exact (hf i hi').2
end Go.Proofs.YtjppbomngnomhaaGreatDoor
namespace Go.Proofs.YtjppbomngnomhaaGreatDoor
open Go.RowKit Pl
def ShortA (x : VAct) : Prop := x.l.length ≤ 10 ∧ ∀ y ∈ x.l, y.1.length ≤ 100 ∧ y.2.length ≤ 100
def ShortV (l : List VAct) : Prop := l.length ≤ 10 ∧ ∀ i, i < l.length → ShortA (l.getD i vact0)
def LongQ (w : World) (l : List VAct) (e : Ending) (w' : World) : Prop := ∃ b, e = .returned (.bool b) ∧ Below w.heap.size w w' ∧ (b = false → ShortV l)
theorem vlong_any (v : Value) (l : List VAct) (hf : VFit l) (w : World) (hv : VL w v l) :
  Calls Tryz.prog 6 #[v] w (LongQ w l) := by
 obtain ⟨va, vc, rfl⟩ := hv.form
 have hsm := hv.small
 have HV := Lib.hid hv
 have HF := Lib.hid hf
 clear hv hf
 by_cases h1 : 10 < l.length
 ·have d1 : decide ((10 : Int) < (l.length : Int)) = true := by simp; omega
  clear h1
  go_enter Tryz.func6, Tryz.ntmps6
  go_wp2_with fail
  go_ret
  exact ⟨true, rfl, Below.refl _ _, fun h => by cases h⟩
 ·have d1 : decide ((10 : Int) < (l.length : Int)) = false := by simp; omega
  have HL : Hid (l.length ≤ 10) := Lib.hid (by omega)
  clear h1
  go_enter Tryz.func6, Tryz.ntmps6
  go_wp2_with fail
  go_loopw [3, 4] (fun s3 s4 wr => ∃ i : Nat, s3 = .int .i64 i ∧ i ≤ l.length ∧ Hid (∀ j, j < i → ShortA (l.getD j vact0)) ∧ Hid (Below w.heap.size w wr)) (fun s3 _ _ => l.length - (intOf s3).toNat)
  case atStart => exact ⟨0, rfl, Nat.zero_le _, Lib.hid (fun j hj => absurd hj (by omega)), Lib.hid (Below.refl _ _)⟩
  case round =>
   obtain ⟨i, rfl, hi, HS, HB⟩ := hrel
   obtain ⟨wr, hwr⟩ := Below.name HB.out
   subst hwr
   have hl10 := HL.out
   by_cases hlt : i < l.length
   ·have e0 : decide ((i : Int) < (l.length : Int)) = true := by simp; omega
    have e1 : decide (i < l.length) = true := by simp; omega
    have i0 : 0 ≤ (i : Int) ∧ (i : Int) < (l.length : Int) := by omega
    obtain ⟨g, off, ia, ic, rfl, hg, c0, c1, c2, cI⟩ := (HV.out.keep HB.out).at i hlt
    have hit := (HF.out i hlt).2.2
    have HIS : Hid (∀ x, ShortA (l.getD i vact0) → x = i → ShortA (l.getD x vact0)) := Lib.hid (fun x h e => by rw [e]; exact h)
    generalize l.getD i vact0 = ac at *
    have HI := Lib.hid cI
    have HIT := Lib.hid hit
    have hism := cI.small
    clear cI hit
    by_cases h2 : 10 < ac.l.length
    ·have d2 : decide ((10 : Int) < (ac.l.length : Int)) = true := by simp; omega
     clear h2
     go_wp2_with fail
     go_ret
     exact ⟨true, rfl, HB.out, fun h => by cases h⟩
    ·have d2 : decide ((10 : Int) < (ac.l.length : Int)) = false := by simp; omega
     have HA : Hid (ac.l.length ≤ 10) := Lib.hid (by omega)
     clear h2
     go_wp2_with fail
     go_loopw [4] (fun s4 wq => ∃ k : Nat, s4 = .int .i64 k ∧ k ≤ ac.l.length ∧ Hid (∀ j, j < k → (ac.l.getD j ([], [])).1.length ≤ 100 ∧ (ac.l.getD j ([], [])).2.length ≤ 100) ∧ Hid (Below wr.heap.size wr wq)) (fun s4 _ => ac.l.length - (intOf s4).toNat)
     case atStart => exact ⟨0, rfl, Nat.zero_le _, Lib.hid (fun j hj => absurd hj (by omega)), Lib.hid (Below.refl _ _)⟩
     case round =>
      obtain ⟨k, rfl, hk, HK, HQ⟩ := hrel
      obtain ⟨wq, hwq⟩ := Below.name HQ.out
      subst hwq
      have c2 := keepC HQ.out c2
      have ha10 := HA.out
      by_cases hlk : k < ac.l.length
      ·have k0 : decide ((k : Int) < (ac.l.length : Int)) = true := by simp; omega
       have k1 : decide (k < ac.l.length) = true := by simp; omega
       have k2 : 0 ≤ (k : Int) ∧ (k : Int) < (ac.l.length : Int) := by omega
       obtain ⟨g2, off2, rfl, hg2, q1, q2⟩ := (HI.out.keep HQ.out).at k hlk
       have hmem : ac.l.getD k ([], []) ∈ ac.l := by
        rw [List.getD_eq_getElem?_getD, List.getElem?_eq_getElem hlk]
        exact List.getElem_mem hlk
       obtain ⟨s1, s2⟩ := HIT.out _ hmem
       have HKS : Hid (((ac.l.getD k ([], [])).1.length ≤ 100 ∧ (ac.l.getD k ([], [])).2.length ≤ 100) → ∀ j, j < k + 1 → (ac.l.getD j ([], [])).1.length ≤ 100 ∧ (ac.l.getD j ([], [])).2.length ≤ 100) := Lib.hid (fun h j hj => by
        rcases Nat.lt_or_ge j k with h1 | h1
        ·exact HK.out j h1
        ·have : j = k := by omega
         subst this; exact h)
       clear hmem
       generalize ac.l.getD k ([], []) = y at *
       obtain ⟨y1, y2⟩ := y
       simp only at q1 q2 s1 s2
       by_cases h3 : 100 < y1.length
       ·have d3 : decide ((100 : Int) < (y1.length : Int)) = true := by simp; omega
        clear h3
        go_wp2_with fail
        go_ret
        exact ⟨true, rfl, HB.out.trans (HQ.out.mono HB.out.size), fun h => by cases h⟩
       ·have d3 : decide ((100 : Int) < (y1.length : Int)) = false := by simp; omega
        by_cases h4 : 100 < y2.length
        ·have d4 : decide ((100 : Int) < (y2.length : Int)) = true := by simp; omega
         clear h3 h4
         go_wp2_with fail
         go_ret
         exact ⟨true, rfl, HB.out.trans (HQ.out.mono HB.out.size), fun h => by cases h⟩
        ·have d4 : decide ((100 : Int) < (y2.length : Int)) = false := by simp; omega
         have HN := Lib.hid (HKS.out ⟨by show y1.length ≤ 100; omega, by show y2.length ≤ 100; omega⟩)
         clear h3 h4
         go_wp2_with fail
         exact ⟨⟨k + 1, by go_num, by omega, HN, HQ⟩, by simp [intOf]; omega⟩
      ·have k0 : decide ((k : Int) < (ac.l.length : Int)) = false := by simp; omega
       have k1 : decide (k < ac.l.length) = false := by simp; omega
       have HA2 : Hid (∀ j, j < i + 1 → ShortA (l.getD j vact0)) := Lib.hid (fun j hj => by
        rcases Nat.lt_or_ge j i with h1 | h1
        ·exact HS.out j h1
        ·refine HIS.out j ⟨HA.out, fun y hy => ?_⟩ (by omega)
         obtain ⟨n, hn, rfl⟩ := List.getElem_of_mem hy
         have := HK.out n (by omega)
         rw [List.getD_eq_getElem?_getD, List.getElem?_eq_getElem hn] at this
         exact this)
       go_wp2_with fail
       exact ⟨⟨i + 1, by go_num, by omega, HA2, Lib.hid (HB.out.trans (HQ.out.mono HB.out.size))⟩, by simp [intOf]; omega⟩
   ·have e0 : decide ((i : Int) < (l.length : Int)) = false := by simp; omega
    have e1 : decide (i < l.length) = false := by simp; omega
    have he : i = l.length := by omega
    subst he
    have HSV : Hid (ShortV l) := Lib.hid ⟨HL.out, HS.out⟩
    go_wp2_with fail
    go_ret
    exact ⟨false, rfl, HB.out, fun _ => HSV.out⟩
end Go.Proofs.YtjppbomngnomhaaGreatDoor
namespace Go.Proofs.YtjppbomngnomhaaGreatDoor
open Go.RowKit Go.Sort Pl
structure VsUp (x : Vs) : Prop where
 up : (hrs x.R).Pairwise (· < ·)
 top : ∀ k ∈ hrs x.R, 0 ≤ k ∧ k ≤ x.last
 has : x.R ≠ [] → x.last ∈ hrs x.R
theorem VsUp.start : VsUp vs0 := ⟨List.Pairwise.nil, fun _ h => (by cases h), fun h => absurd rfl h⟩
theorem VsUp.commit {x : Vs} (hx : VsUp x) (h : Int) (l : List It) : VsUp (commitV x h l).1 := by
 unfold commitV
 split
 ·exact hx
 ·rename_i h1
  split
  ·exact hx
  ·rename_i h2
   split
   ·exact hx
   ·refine ⟨?_, fun k hk => ?_, fun _ => ?_⟩
    ·show (hrs (x.R ++ [(h, _)])).Pairwise _
     unfold hrs
     rw [List.map_append, List.pairwise_append]
     refine ⟨hx.up, by simp, fun a ha b hb => ?_⟩
     simp only [List.map_cons, List.map_nil, List.mem_singleton] at hb
     have := (hx.top a ha).2
     omega
    ·show 0 ≤ k ∧ k ≤ h
     unfold hrs at hk
     rw [List.map_append, List.mem_append] at hk
     rcases hk with hk | hk
     ·have := hx.top k hk
      omega
     ·simp only [List.map_cons, List.map_nil, List.mem_singleton] at hk
      omega
    ·show h ∈ hrs (x.R ++ [(h, _)])
     simp [hrs]
theorem stay_hrs (x : Vs) (b : Int) : hrs (stayR x b) = (hrs x.R).filter (fun k => !goesB b x.last k) := by
 unfold stayR hrs
 rw [List.filter_map]
 rfl
theorem VsUp.prune {x : Vs} (hx : VsUp x) (b : Int) (I : List Bs) : VsUp ⟨keepT x.T I, stayR x b, x.new, x.last, max x.below b, x.L⟩ := by
 refine ⟨?_, fun k hk => ?_, fun hne => ?_⟩
 ·show (hrs (stayR x b)).Pairwise _
  rw [stay_hrs]
  exact List.Pairwise.filter _ hx.up
 ·have hk' : k ∈ hrs (stayR x b) := hk
  rw [stay_hrs] at hk'
  exact hx.top k (List.mem_filter.1 hk').1
 ·show x.last ∈ hrs (stayR x b)
  rw [stay_hrs]
  have : x.R ≠ [] := fun e => hne (by show stayR x b = []; unfold stayR; rw [e]; rfl)
  exact List.mem_filter.2 ⟨hx.has this, by simp [goesB]⟩
theorem sortZ_id {l : List Int} (h : l.Pairwise (· < ·)) : sortZ l = l := by
 unfold sortZ
 exact List.mergeSort_of_pairwise (h.imp (fun h => by simp only [leI, decide_eq_true_eq]; omega))
theorem commit_len (x : Vs) (hx : VsOk x) (h : Int) (l : List It) : (commitV x h l).1.L.length ≤ x.L.length + l.length ∧ (commitV x h l).1.T.length ≤ x.T.length + 17 * (x.L.length + l.length) ∧ (commitV x h l).1.R.length ≤ x.R.length + 1 ∧ (commitV x h l).1.below = x.below := by
 unfold commitV
 split
 ·exact ⟨by simp, by simp, by simp, rfl⟩
 ·split
  ·exact ⟨by simp, by simp, by simp, rfl⟩
  ·split
   ·exact ⟨by simp, by simp, by simp, rfl⟩
   ·rename_i h3
    obtain ⟨g1, g2⟩ := chgs_good l x.new x.L hx.gt (by simpa using h3)
    have h4 := saveT_len x.T (nodesT (chgsR x.new x.L l).1.1)
    have h5 := g1.nodes
    refine ⟨g2, ?_, by simp, rfl⟩
    show (saveT x.T _).length ≤ _
    omega
end Go.Proofs.YtjppbomngnomhaaGreatDoor
namespace Go.Proofs.YtjppbomngnomhaaGreatDoor
open Pl
def unlikeB (tag : Nat) (l : List Bs) : Bool :=
 (List.range l.length).any fun i => (List.range i).any fun k => decide (tagP tag (l.getD i []) = tagP tag (l.getD k [])) && decide (l.getD i [] ≠ l.getD k [])
theorem unlikeB_at {tag : Nat} {l : List Bs} {i k : Nat} (hi : i < l.length) (hk : k < l.length) (hs : tagP tag (l.getD i []) = tagP tag (l.getD k [])) (hn : l.getD i [] ≠ l.getD k []) : unlikeB tag l = true := by
 have key : ∀ i k, i < l.length → k < i → tagP tag (l.getD i []) = tagP tag (l.getD k []) → l.getD i [] ≠ l.getD k [] → unlikeB tag l = true := by
  intro i k hi hk hs hn
  unfold unlikeB
  rw [List.any_eq_true]
  refine ⟨i, List.mem_range.2 hi, ?_⟩
  rw [List.any_eq_true]
  exact ⟨k, List.mem_range.2 hk, by rw [hs]; simpa using hn⟩
 rcases Nat.lt_trichotomy i k with h | h | h
 ·exact key k i hk h hs.symm (fun e => hn e.symm)
 ·subst h; exact absurd rfl hn
 ·exact key i k hi h hs hn
theorem unlikeB_of {tag : Nat} {l : List Bs} {a b : Bs} (ha : a ∈ l) (hb : b ∈ l) (hs : tagP tag a = tagP tag b) (hn : a ≠ b) : unlikeB tag l = true := by
 obtain ⟨i, hi, rfl⟩ := List.getElem_of_mem ha
 obtain ⟨k, hk, rfl⟩ := List.getElem_of_mem hb
 have e : ∀ j (h : j < l.length), l.getD j [] = l[j] := fun j h => by rw [List.getD_eq_getElem?_getD, List.getElem?_eq_getElem h]; rfl
 exact unlikeB_at hi hk (by rw [e i hi, e k hk]; exact hs) (by rw [e i hi, e k hk]; exact hn)
end Go.Proofs.YtjppbomngnomhaaGreatDoor
namespace Go.Proofs.YtjppbomngnomhaaGreatDoor
open Go.RowKit Pl
def OneS (X : List Bs) : Prop := ∀ a ∈ X, ∀ b ∈ X, tagP 1 a = tagP 1 b → a = b
theorem OneS.sub {X Y : List Bs} (h : OneS Y) (hs : ∀ a ∈ X, a ∈ Y) : OneS X := fun a ha b hb e => h a (hs a ha) b (hs b hb) e
theorem OneS.not {X : List Bs} (h : ¬ OneS X) : unlikeB 1 X = true := by
 apply Classical.byContradiction
 intro hn
 refine h (fun a ha b hb e => Classical.byContradiction (fun hab => hn (unlikeB_of ha hb e hab)))
theorem kid_in (kid : Nat → Bs) (i : Nat) (h : kid i ≠ []) (hi : i < 16) : kid i ∈ kidsF kid :=
 List.mem_filter.2 ⟨List.mem_map.2 ⟨i, List.mem_range.2 hi, rfl⟩, by simpa using h⟩
theorem rch_nodes (T : List Ent) (S : List Bs) : ∀ (t : Tri) (n : Nat), n ≤ 16 → okT t n → canT t → (∀ x ∈ nodesT t, getT T (tagP 1 x) = some x) → (t ≠ .nil → Rch T S (sumT t)) → ∀ x ∈ nodesT t, Rch T S (tagP 1 x)
 | .nil, n, _, _, _, _, _, x, hx => by cases hx
 | .leaf p v, n, hn, ho, hc, hg, hr, x, hx => by
  rw [show nodesT (.leaf p v) = [textT (.leaf p v)] from rfl, List.mem_singleton] at hx
  subst hx
  have hne : Tri.leaf p v ≠ .nil := by simp
  rw [← sum_text hne (chk_can _ n hn ho hc hne)]
  exact hr hne
 | .ext p t, n, hn, ho, hc, hg, hr, x, hx => by
  have hne : Tri.ext p t ≠ .nil := by simp
  have hck := chk_can _ n hn ho hc hne
  rcases List.mem_cons.1 hx with rfl | hx
  ·rw [← sum_text hne hck]
   exact hr hne
  ·have hkn : t ≠ .nil := ho.2.2.1.1
   have hkc := chk_can _ _ (by omega) ho.2.2.2 hc.2 hkn
   refine rch_nodes T S t (n - p.length) (by omega) ho.2.2.2 hc.2 (fun y hy => hg y (List.mem_cons.2 (.inr hy))) (fun _ => ?_) x hx
   have hsn : sumT t ≠ [] := fun e => by have := sum_len hkn hkc; rw [e] at this; cases this
   refine .step (hr hne) ?_ ?_
   ·unfold kidsT
    rw [node_at hne hck (hg _ (text_in hne)), if_pos rfl]
    have e : kidT (.ext p t) 0 = sumT t := by rw [kidT_at _ 0 (by omega)]; rfl
    have h9 := kid_in (kidT (.ext p t)) 0 (by rw [e]; exact hsn) (by omega)
    rw [e] at h9
    exact h9
   ·rw [sum_text hkn hkc]
    exact get_in (hg _ (List.mem_cons.2 (.inr (text_in hkn))))
 | .br v kids, n, hn, ho, hc, hg, hr, x, hx => by
  have hne : Tri.br v kids ≠ .nil := by simp
  have hck := chk_can _ n hn ho hc hne
  rcases List.mem_cons.1 hx with rfl | hx
  ·rw [← sum_text hne hck]
   exact hr hne
  ·obtain ⟨i, hi, hx⟩ := List.mem_flatMap.1 hx
   have hi := List.mem_range.1 hi
   rcases ho i with h0 | ⟨_, h1, h2⟩
   ·rw [h0] at hx; cases hx
   ·by_cases hkn : kids i = .nil
    ·rw [hkn] at hx; cases hx
    have hkc := chk_can _ _ (by omega) h2 (hc.2.2 i) hkn
    have hin : ∀ y ∈ nodesT (kids i), y ∈ nodesT (.br v kids) := fun y hy => List.mem_cons.2 (.inr (List.mem_flatMap.2 ⟨i, List.mem_range.2 hi, hy⟩))
    refine rch_nodes T S (kids i) (n - 1) (by omega) h2 (hc.2.2 i) (fun y hy => hg y (hin y hy)) (fun _ => ?_) x hx
    have hsn : sumT (kids i) ≠ [] := fun e => by have := sum_len hkn hkc; rw [e] at this; cases this
    refine .step (hr hne) ?_ ?_
    ·unfold kidsT
     rw [node_at hne hck (hg _ (text_in hne)), if_pos rfl]
     have e : kidT (.br v kids) i = sumT (kids i) := by rw [kidT_at _ i hi]; rfl
     have h9 := kid_in (kidT (.br v kids)) i (by rw [e]; exact hsn) hi
     rw [e] at h9
     exact h9
    ·rw [sum_text hkn hkc]
     exact get_in (hg _ (hin _ (text_in hkn)))
theorem get_keep {T : List Ent} {I : List Bs} {k : Bs} (h : k ∈ I) : getT (keepT T I) k = getT T k := by
 unfold getT keepT
 congr 1
 induction T with
 | nil => rfl
 | cons e r ih =>
  by_cases h1 : e.1 = k
  ·have h2 : e.1 ∈ I := by rw [h1]; exact h
   rw [List.filter_cons, if_pos (by simpa using h2), List.find?_cons, List.find?_cons]
   have h3 : (e.1 == k) = true := by simpa using h1
   rw [h3]
  ·have h3 : (e.1 == k) = false := by simpa using h1
   rw [List.filter_cons]
   split
   ·rw [List.find?_cons, List.find?_cons, h3]; exact ih
   ·rw [List.find?_cons, h3]; exact ih
theorem get_ofV {T : List Ent} {k : Bs} (h : k ∈ keysE T) : ∃ e ∈ T, e.1 = k ∧ getT T k = some e.2 := by
 obtain ⟨e, he, rfl⟩ := List.mem_map.1 h
 unfold getT
 cases hf : T.find? (fun y => y.1 == e.1) with
 | none =>
  rw [List.find?_eq_none] at hf
  exact absurd (by simp) (hf e he)
 | some y =>
  have h2 := List.find?_some hf
  simp only [beq_iff_eq] at h2
  exact ⟨y, List.mem_of_find?_eq_some hf, h2, rfl⟩
def Fits (T : List Ent) (X : List Bs) : Prop := ∀ e ∈ T, e.1 = tagP 1 e.2 ∧ e.2 ∈ X
theorem Fits.put {T : List Ent} {X : List Bs} (h : Fits T X) {t : Bs} (ht : t ∈ X) : Fits (Go.Proofs.YtjppbomngnomhaaGreatDoor.putT T t) X := by
 unfold Go.Proofs.YtjppbomngnomhaaGreatDoor.putT
 split
 ·exact h
 ·intro e he
  rcases List.mem_append.1 he with he | he
  ·exact h e he
  ·rw [List.mem_singleton] at he
   subst he
   exact ⟨rfl, ht⟩
theorem Fits.save {X : List Bs} : ∀ (l : List Bs) {T : List Ent}, Fits T X → (∀ t ∈ l, t ∈ X) → Fits (saveT T l) X
 | [], _, h, _ => h
 | t :: r, _, h, hl => Fits.save r (h.put (hl t (by simp))) (fun y hy => hl y (by simp [hy]))
theorem put_key {T : List Ent} {t k : Bs} (h : k ∈ keysE T ∨ k = tagP 1 t) : k ∈ keysE (Go.Proofs.YtjppbomngnomhaaGreatDoor.putT T t) := by
 unfold Go.Proofs.YtjppbomngnomhaaGreatDoor.putT
 split
 ·rename_i h1
  rcases h with h | rfl
  ·exact h
  ·exact h1
 ·unfold keysE
  rw [List.map_append, List.mem_append]
  rcases h with h | rfl
  ·exact .inl h
  ·exact .inr (by simp)
theorem save_key : ∀ (l : List Bs) {T : List Ent} {k : Bs}, (k ∈ keysE T ∨ ∃ t ∈ l, k = tagP 1 t) → k ∈ keysE (saveT T l)
 | [], _, _, h => by
  rcases h with h | ⟨t, ht, _⟩
  ·exact h
  ·cases ht
 | t :: r, _, _, h => save_key r (by
  rcases h with h | ⟨y, hy, he⟩
  ·exact .inl (put_key (.inl h))
  ·rcases List.mem_cons.1 hy with rfl | hy
   ·exact .inl (put_key (.inr he))
   ·exact .inr ⟨y, hy, he⟩)
theorem Fits.get {T : List Ent} {X : List Bs} (h : Fits T X) (h1 : OneS X) {n : Bs} (hn : n ∈ X) (hk : tagP 1 n ∈ keysE T) : getT T (tagP 1 n) = some n := by
 obtain ⟨e, he, h2, h3⟩ := get_ofV hk
 obtain ⟨h4, h5⟩ := h e he
 rw [h3, h1 e.2 h5 n hn (h4.symm.trans h2)]
structure StG (x : Vs) (W : Int → Option Tri) (X : List Bs) : Prop where
 has : ∀ e ∈ x.R, ∃ t L, W e.1 = some t ∧ GTr t L ∧ L.length ≤ 1000 ∧ e.2 = sumT t ∧ ∀ n ∈ nodesT t, n ∈ X
 fits : Fits x.T X
 live : OneS X → ∀ e ∈ x.R, ∀ t, W e.1 = some t → ∀ n ∈ nodesT t, getT x.T (tagP 1 n) = some n
theorem StG.start : StG vs0 (fun _ => none) [] := ⟨fun _ h => (by cases h), fun _ h => (by cases h), fun _ _ h => (by cases h)⟩
theorem StG.prune {x : Vs} {W : Int → Option Tri} {X : List Bs} (h : StG x W X) (b : Int) {S I : List Bs} (hS : ∀ r, r ∈ S ↔ ∃ e ∈ stayR x b, e.2 = r) (hI : ∀ s, s ∈ I ↔ Rch x.T S s) :
  StG ⟨keepT x.T I, stayR x b, x.new, x.last, max x.below b, x.L⟩ W X := by
 have hsub : ∀ e ∈ stayR x b, e ∈ x.R := fun e he => (List.mem_filter.1 he).1
 refine ⟨fun e he => h.has e (hsub e he), fun e he => h.fits e (List.mem_filter.1 he).1, fun h1 e he t ht n hn => ?_⟩
 have hg := h.live h1 e (hsub e he) t ht
 obtain ⟨t', L, e1, g1, _, e2, _⟩ := h.has e (hsub e he)
 rw [ht] at e1
 obtain rfl : t = t' := by injection e1
 show getT (keepT x.T I) (tagP 1 n) = some n
 rw [get_keep, hg n hn]
 refine (hI _).2 (rch_nodes x.T S t 16 (by omega) g1.rep.ok g1.can hg (fun hne => ?_) n hn)
 refine .start ((hS _).2 ⟨e, he, e2⟩) ?_
 rw [sum_text hne (chk_can t 16 (by omega) g1.rep.ok g1.can hne)]
 exact get_in (hg _ (text_in hne))
theorem StG.commit {x : Vs} {W : Int → Option Tri} {X : List Bs} (h : StG x W X) (k : Int) (hk : k ∉ hrs x.R) (t : Tri) (L L' : List It) (hG : GTr t L) (hL : L.length ≤ 1000) (b : Int) :
  StG ⟨saveT x.T (nodesT t), x.R ++ [(k, sumT t)], t, k, b, L'⟩ (fun j => if j = k then some t else W j) (X ++ nodesT t) := by
 have hf : Fits (saveT x.T (nodesT t)) (X ++ nodesT t) := Fits.save _ (fun e he => ⟨(h.fits e he).1, List.mem_append.2 (.inl (h.fits e he).2)⟩) (fun y hy => List.mem_append.2 (.inr hy))
 have hne : ∀ e ∈ x.R, e.1 ≠ k := fun e he e1 => hk (List.mem_map.2 ⟨e, he, e1⟩)
 refine ⟨fun e he => ?_, hf, fun h1 e he u hu n hn => ?_⟩
 ·rcases List.mem_append.1 he with he | he
  ·obtain ⟨t', L1, a1, a2, a3, a4, a5⟩ := h.has e he
   exact ⟨t', L1, (if_neg (hne e he)).trans a1, a2, a3, a4, fun n hn => List.mem_append.2 (.inl (a5 n hn))⟩
  ·rw [List.mem_singleton] at he
   subst he
   exact ⟨t, L, if_pos rfl, hG, hL, rfl, fun n hn => List.mem_append.2 (.inr hn)⟩
 ·rcases List.mem_append.1 he with he | he
  ·have hu' : W e.1 = some u := by rw [← hu]; exact (if_neg (hne e he)).symm
   have hg := h.live (h1.sub (fun a ha => List.mem_append.2 (.inl ha))) e he u hu' n hn
   obtain ⟨t', L1, a1, a2, a3, a4, a5⟩ := h.has e he
   rw [hu'] at a1
   obtain rfl : u = t' := by injection a1
   exact hf.get h1 (List.mem_append.2 (.inl (a5 n hn))) (save_key _ (.inl (get_in hg)))
  ·rw [List.mem_singleton] at he
   subst he
   have hu' : some t = some u := by rw [← hu]; exact (if_pos rfl).symm
   obtain rfl : t = u := by injection hu'
   exact hf.get h1 (List.mem_append.2 (.inr hn)) (save_key _ (.inr ⟨n, hn, rfl⟩))
theorem StG.at {x : Vs} {W : Int → Option Tri} {X : List Bs} (h : StG x W X) {k : Int} (hk : k ∈ hrs x.R) :
  ∃ t L, W k = some t ∧ GTr t L ∧ L.length ≤ 1000 ∧ rootV x k = (sumT t, 0) ∧ (OneS X → atV x k = (t, 0)) := by
 obtain ⟨r, h1, h2⟩ := findR_in hk
 obtain ⟨t, L, a1, a2, a3, a4, a5⟩ := h.has _ h2
 have hr : rootV x k = (sumT t, 0) := by
  unfold rootV
  rw [h1]
  exact congrArg (·, (0 : Int)) a4
 refine ⟨t, L, a1, a2, a3, hr, fun ho => ?_⟩
 unfold atV
 rw [hr]
 simp only [ne_eq, not_true_eq_false, if_false]
 unfold loadR
 by_cases hn : t = .nil
 ·subst hn
  exact if_pos rfl
 ·have hck := chk_can t 16 (by omega) a2.rep.ok a2.can hn
  rw [if_neg (fun e => by have := sum_len hn hck; rw [e] at this; cases this)]
  rw [load_root a2.rep a2.can hn (by omega) a2.keys (h.live ho _ h2 t a1)]
end Go.Proofs.YtjppbomngnomhaaGreatDoor
namespace Go.Proofs.YtjppbomngnomhaaGreatDoor
open Go.RowKit Pl
def withT (t : Tri) (x : It) : Tri := if x.2 = [] then delT t (ofP x.1) else Pl.putT t (ofP x.1) x.2
def withC (t : Tri) (L : List It) (x : It) : Int := if x.2 = [] then (getK t x.1).2 else putE L x.1 x.2
theorem with_chg {t : Tri} {L : List It} {x : It} (h : chgC t L x = 0) : chgT t x = if withC t L x = 0 then withT t x else t := by
 unfold chgC at h
 unfold chgT withC withT
 by_cases hx : x.2 = []
 ·rw [if_pos hx, if_pos hx, if_pos hx]
 ·rw [if_neg hx] at h
  rw [if_neg hx, if_neg hx, if_neg hx, if_pos h]
theorem with_any (pt : Nat) (t : Tri) (L : List It) (hG : GTr t L) (k v : Bs) (hk : k.length ≤ 1000000) (hv : v.length ≤ 1000000) (w : World) (hkt : KT w) (hT : TAt w pt t) :
  Calls Tryz.prog 13 #[.pointer (some ⟨pt, 0, none⟩), .agg #[.string ⟨List.toArray k⟩, .string ⟨List.toArray v⟩]] w (LoadQ w (withT t (k, v), withC t L (k, v))) := by
 have hbA : Below w.heap.size w (w.alloc (.cells #[.string ⟨List.toArray k⟩, .string ⟨List.toArray v⟩] 43)) := Below.allocS (Below.refl _ _) _
 by_cases hv0 : v = []
 ·subst hv0
  have HD := Lib.hid (tdelG_any pt t L hG k (by omega) _ (hkt.keep hbA) (hT.keep hbA))
  have HC : Hid (withC t L (k, []) = (getK t k).2) := Lib.hid (by simp [withC])
  have HT : Hid (withT t (k, []) = delT t (ofP k)) := Lib.hid (by simp [withT])
  have HBA := Lib.hid hbA
  clear hG hkt hT hbA
  rw [HC.out, HT.out]
  clear HC HT
  generalize delT t (ofP k) = t2 at *
  generalize (getK t k).2 = c at *
  go_enter Tryz.func13, Tryz.ntmps13
  go_wp2_with fail
  refine HD.out.mono ?_
  rintro e w2 ⟨hb2, he⟩
  have HB2 := Lib.hid (HBA.out.trans (hb2.mono HBA.out.size))
  clear hb2
  rcases he with ⟨hc, rfl⟩ | ⟨hc, pt2, rfl, hT2⟩
  ·have HX := Lib.hid hc
   clear HD hc
   go_wp2_with fail
   go_ret2
   exact ⟨HB2.out, .inl ⟨HX.out, rfl⟩⟩
  ·simp only at hc
   subst hc
   have HT2 := Lib.hid hT2
   clear HD hT2
   go_wp2_with fail
   go_ret2
   exact ⟨HB2.out, .inr ⟨rfl, pt2, rfl, HT2.out⟩⟩
 ·have HP := Lib.hid (tputG_any pt t L hG k v (by omega) (by omega) _ (hkt.keep hbA) (hT.keep hbA))
  have HC : Hid (withC t L (k, v) = putE L k v) := Lib.hid (by simp [withC, hv0])
  have HT : Hid (withT t (k, v) = Pl.putT t (ofP k) v) := Lib.hid (by simp [withT, hv0])
  have v1 : v.isEmpty = false := by simpa using hv0
  have v2 : (v == []) = false := by simpa using hv0
  have v3 : (v != []) = true := by simpa using hv0
  have HBA := Lib.hid hbA
  clear hG hkt hT hbA hv0
  rw [HC.out, HT.out]
  clear HC HT
  generalize Pl.putT t (ofP k) v = t2 at *
  generalize putE L k v = c at *
  go_enter Tryz.func13, Tryz.ntmps13
  go_wp2_with fail
  refine HP.out.mono ?_
  rintro e w2 ⟨hb2, he⟩
  have HB2 := Lib.hid (HBA.out.trans (hb2.mono HBA.out.size))
  clear hb2
  rcases he with ⟨hc, rfl⟩ | ⟨hc, pt2, rfl, hT2⟩
  ·have HX := Lib.hid hc
   clear HP hc
   go_wp2_with fail
   go_ret2
   exact ⟨HB2.out, .inl ⟨HX.out, rfl⟩⟩
  ·simp only at hc
   subst hc
   have HT2 := Lib.hid hT2
   clear HP hT2
   go_wp2_with fail
   go_ret2
   exact ⟨HB2.out, .inr ⟨rfl, pt2, rfl, HT2.out⟩⟩
end Go.Proofs.YtjppbomngnomhaaGreatDoor
namespace Go.Proofs.YtjppbomngnomhaaGreatDoor
open Go.RowKit Go.WideMaps Go.Maps Go.Sort Go.Shelf Pl
theorem blk_nomap {w : World} {b m : Nat} {cs : Array Value} (hB : Blk w b cs) (h0 : 0 < cs.size) (hm : IsMap w m) : b ≠ m := by
 rintro rfl
 have h1 : w.cell? ⟨b, 0, none⟩ = some cs[0] := (hB.cell 0).trans (by simp [h0])
 obtain ⟨o, ho, hn⟩ := cell_obj h1
 obtain ⟨es, c, hm⟩ := hm
 rw [hm] at ho
 injection ho with ho
 exact hn es c ho.symm
section
variable {w w' : World} {base : Nat} {a : VA} {x : Vs}
theorem Sto.isMap {p b : Nat} {T : List Ent} (h : Sto w base p b T) : IsMap w b := h.map
theorem VAt.no3 (hV : VAt w base a x) {b : Nat} {cs : Array Value} (hB : Blk w b cs) (h0 : 0 < cs.size) (hv : b ≠ a.v) : b ∉ [a.v, a.rb, a.sb] := by
 simp only [List.mem_cons, List.not_mem_nil, or_false, not_or]
 exact ⟨hv, blk_nomap hB h0 hV.roots.map, blk_nomap hB h0 hV.sto.isMap⟩
theorem KAt.modA (hV : VAt w base a x) (hm : Mod [a.v, a.rb, a.sb] w w') {t : Tri} {p : Option Nat} (hT : KAt w t p) : KAt w' t p := by
 obtain ⟨pt, hB, _⟩ := hV.blk
 induction hT with
 | nil => exact .nil
 | knot t b ps hn hk hK ih => exact .knot t b ps hn ih (hK.mod hm (hV.no3 hK (by simp only [List.size_toArray, kn_len]; omega) (vers_noKnot hB hK)))
theorem TAt.modA (hV : VAt w base a x) (hm : Mod [a.v, a.rb, a.sb] w w') {t : Tri} {p : Nat} (hT : TAt w p t) : TAt w' p t := by
 obtain ⟨pt, hB, _⟩ := hV.blk
 obtain ⟨kp, h1, h2⟩ := hT
 refine ⟨kp, h1.mod hm (hV.no3 h1 (by simp) ?_), h2.modA hV hm⟩
 rintro rfl
 have e := hB.cell 1
 rw [h1.cell 1] at e
 simp at e
end
def nilP : Value := .pointer none
def hts (W : List (Int × Tri)) : List Int := W.map (·.1)
def lookW (W : List (Int × Tri)) (k : Int) : Option Tri := (W.find? (fun e => e.1 == k)).map (·.2)
theorem zeroP (w : World) : (zeroValue 40).run Tryz.prog w = .ok nilP w := by
 have h : (Tryz.prog.info? 40).map (·.zero) = some (some nilP) := by kernel_rfl
 obtain ⟨i, hi, hz⟩ := Option.map_eq_some_iff.1 h
 simp [zeroValue, typeInfo, hi, hz]
structure WtD (w : World) (D : DataW Value) (W : List (Int × Tri)) : Prop where
 has : ∀ k : Int, Maps.has D (.int .i64 k) = decide (k ∈ hts W)
 val : ∀ e ∈ W, ∃ p, D.atKey (.int .i64 e.1) (.held nilP) = .held (.pointer (some ⟨p, 0, none⟩)) ∧ TAt w p e.2
 nodup : (hts W).Nodup
 size : Maps.size D = W.length
def WtM (w : World) (m : Nat) (W : List (Int × Tri)) : Prop := ∃ D, w.ownsMap (H := Value) Tryz.prog 3 hR m W.length D ∧ WtD w D W
theorem WtM.nil {w : World} {m : Nat} (h : w.ownsMap (H := Value) Tryz.prog 3 hR m 0 (.map [])) : WtM w m [] :=
 ⟨_, h, fun k => (by rw [has_eq]; simp [hts]), fun e he => (by cases he), (by simp [hts]), rfl⟩
theorem WtM.lt {w : World} {m : Nat} {W : List (Int × Tri)} (h : WtM w m W) : m < w.heap.size := by
 obtain ⟨D, ho, _⟩ := h
 exact ho.lt
theorem WtM.map {w : World} {m : Nat} {W : List (Int × Tri)} (h : WtM w m W) : IsMap w m := by
 obtain ⟨D, ⟨es, c, h1, _⟩, _⟩ := h
 exact ⟨es, c, h1⟩
theorem WtM.at' {w w' : World} {m : Nat} {W : List (Int × Tri)} (h : WtM w m W) (hb : w'.heap[m]? = w.heap[m]?) (hT : ∀ t p, TAt w p t → TAt w' p t) : WtM w' m W := by
 obtain ⟨D, ho, hD⟩ := h
 exact ⟨D, ownsMap_at ho hb, hD.has, fun e he => (by obtain ⟨p, h1, h2⟩ := hD.val e he; exact ⟨p, h1, hT _ _ h2⟩), hD.nodup, hD.size⟩
theorem WtM.keep {w w' : World} {m : Nat} {W : List (Int × Tri)} (h : WtM w m W) (hb : Below w.heap.size w w') : WtM w' m W :=
 h.at' (hb.block m h.lt) (fun _ _ hT => hT.keep hb)
theorem WtM.modA {w w' : World} {base m : Nat} {a : VA} {x : Vs} {W : List (Int × Tri)} (h : WtM w m W) (hV : VAt w base a x) (hm : Mod [a.v, a.rb, a.sb] w w') (h1 : m ≠ a.rb) (h2 : m ≠ a.sb) : WtM w' m W := by
 refine h.at' (hm.block m h.lt ?_) (fun _ _ hT => hT.modA hV hm)
 obtain ⟨pt, hB, _⟩ := hV.blk
 simp only [List.mem_cons, List.not_mem_nil, or_false, not_or]
 exact ⟨(blk_nomap hB (by simp) h.map).symm, h1, h2⟩
theorem WtM.look {w : World} {m : Nat} {W : List (Int × Tri)} (h : WtM w m W) (k : Int) (hk : -9223372036854775808 ≤ k ∧ k ≤ 9223372036854775807) (t : Tri) (ht : lookW W k = some t) :
  ∃ p, (Instr.lookup 38 (.map (some m)) (.int .i64 k) false).run Tryz.prog w = .ok (.pointer (some ⟨p, 0, none⟩)) w ∧ TAt w p t := by
 obtain ⟨D, ho, hD⟩ := h
 obtain ⟨v, ps, hrun, hv⟩ := ho.lookup keyedV Tryz.underlying38 (zeroP w) (zd := .held nilP) (zp := []) rfl (keyV k hk)
 have hin : (k, t) ∈ W := by
  unfold lookW at ht
  cases hf : W.find? (fun e => e.1 == k) with
  | none => rw [hf] at ht; cases ht
  | some y =>
   have h2 := List.find?_some hf
   simp only [beq_iff_eq] at h2
   rw [hf] at ht
   have h3 : y.2 = t := by simpa using ht
   have h4 := List.mem_of_find?_eq_some hf
   rw [← h2, ← h3]; exact h4
 obtain ⟨p, h1, h2⟩ := hD.val (k, t) hin
 rw [h1] at hv
 refine ⟨p, ?_, h2⟩
 rw [hrun, hR_inv hv]
theorem lookW_new {W : List (Int × Tri)} {k : Int} (hn : k ∉ hts W) (t : Tri) : lookW (W ++ [(k, t)]) = fun j => if j = k then some t else lookW W j := by
 funext j
 unfold lookW
 rw [List.find?_append]
 by_cases e : j = k
 ·subst e
  rw [if_pos rfl, List.find?_eq_none.2 (fun e he e2 => hn (List.mem_map.2 ⟨e, he, by simpa using e2⟩))]
  simp
 ·rw [if_neg e]
  have : ([(k, t)] : List (Int × Tri)).find? (fun y => y.1 == j) = none := by
   rw [List.find?_eq_none]
   intro y hy
   rw [List.mem_singleton] at hy
   subst hy
   simpa using fun h => e h.symm
  rw [this, Option.or_none]
theorem WtM.update {w : World} {m : Nat} {W : List (Int × Tri)} (h : WtM w m W) (hl : W.length < 1000000) (k : Int) (hk : -9223372036854775808 ≤ k ∧ k ≤ 9223372036854775807) (hn : k ∉ hts W) (t : Tri) (p : Nat) (hv : TAt w p t) :
  ∃ w', (Instr.mapUpdate 38 (.map (some m)) (.int .i64 k) (.pointer (some ⟨p, 0, none⟩))).run Tryz.prog w = .ok () w' ∧ WtM w' m (W ++ [(k, t)]) ∧ w.grownBy w' (some m) := by
 have hmap := h.map
 obtain ⟨D, ho, hD⟩ := h
 have htd := ho.tidy keyedV
 obtain ⟨w', hrun, ho2, hg⟩ := ho.update keyedV Tryz.underlying38 (by unfold maxLen; omega) (keyV k hk) (show hR (.pointer (some ⟨p, 0, none⟩)) = some (.held (.pointer (some ⟨p, 0, none⟩)), []) from rfl)
 have hm := MM.of_grown hmap hg
 refine ⟨w', hrun, ⟨D.put (.int .i64 k) (.held (.pointer (some ⟨p, 0, none⟩))), by rw [List.length_append]; exact ho2, fun k' => ?_, fun e he => ?_, ?_, ?_⟩, hg⟩
 ·by_cases e : k' = k
  ·subst e
   rw [has_put_same htd.isMap (isKeyV k')]
   simp [hts]
  ·rw [has_put_other (by intro h; injection h with _ h; exact e h), hD.has, decide_eq_decide]
   unfold hts
   rw [List.map_append, List.mem_append]
   simp [e]
 ·rcases List.mem_append.1 he with he | he
  ·obtain ⟨u, h1, h2⟩ := hD.val e he
   have hne : e.1 ≠ k := fun h => hn (by rw [← h]; exact List.mem_map.2 ⟨e, he, rfl⟩)
   exact ⟨u, by rw [atKey_put_other (by intro h; injection h with _ h; exact hne h)]; exact h1, h2.mm hm⟩
  ·rw [List.mem_singleton] at he
   subst he
   exact ⟨p, atKey_put_same htd.isMap (isKeyV k) _ _, hv.mm hm⟩
 ·unfold hts
  rw [List.map_append, List.nodup_append]
  refine ⟨hD.nodup, by simp, fun a ha b hb e => ?_⟩
  simp only [List.map_cons, List.map_nil, List.mem_singleton] at hb
  subst hb e
  exact hn ha
 ·rw [size_put htd, hD.has, if_neg (by simpa using hn), hD.size, List.length_append]
  rfl
end Go.Proofs.YtjppbomngnomhaaGreatDoor
