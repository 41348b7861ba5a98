/- VWorks, VActL, VLong, VGoesP, VGoes, Laid. -/
import Derived.LaidMore
import Derived.Stop.Joined
import Derived.Test.YtjppbomngnomhaaGreatDoorMv19
set_option linter.unnecessarySimpa false
set_option linter.unusedSimpArgs false
set_option linter.unusedVariables false
set_option maxRecDepth 100000
set_option maxHeartbeats 32000000
namespace Go.Proofs.YtjppbomngnomhaaGreatDoor
open Go.RowKit Pl
theorem il_one {w : World} {m : Nat} {k v : Bs} (h : w.heap[m]? = some (.cells #[.string ⟨List.toArray k⟩, .string ⟨List.toArray v⟩] 43)) : IL w (.slice (some ⟨m, 0, none⟩) 1 1) [(k, v)] :=
 ⟨some ⟨m, 0, none⟩, 1, rfl, by simp, by unfold maxLen; omega, fun _ => ⟨m, 0, rfl, heap_lt h, isrc_blk h⟩⟩
theorem VAt.low {w w' : World} {B base : Nat} {a : VA} {x : Vs} (h : VAt w base a x) (hm : Mod [a.v, a.rb, a.sb] w w') (hB : B ≤ base) (hs : B ≤ w.heap.size) : Below B w w' :=
 Below.mod (Below.refl _ _) hm hs (by
  intro k hk
  simp only [List.mem_cons, List.not_mem_nil, or_false] at hk
  rcases hk with rfl | rfl | rfl
  ·exact Nat.le_trans hB h.hv
  ·exact Nat.le_trans hB h.hr
  ·exact Nat.le_trans hB h.sto.hb)
theorem works12_any (w : World) (hk : KT w) : Calls Tryz.prog 5 #[] w fun e w' => e = .returned (.bool true) ∧ Below w.heap.size w w' := by
 have HN := Lib.hid (vnew_any w)
 have HK := Lib.hid hk
 have HSR := Lib.hid smA
 have HSB := Lib.hid smB
 have hne : (sA == sB) = false := by simpa using sAB
 have HC1 := Lib.hid (fun (a : VA) (W : World) (v : Value) (hb : w.heap.size ≤ W.heap.size) (h1 : KT W) (h2 : IL W v [([97], [49])]) (h3 : VAt W w.heap.size a vs0) => vcommit_any w.heap.size a vs0 VsOk.start 1 (by omega) v [([97], [49])] (by simp) (by simp [vs0]) (by simp [vs0]) (by simp [vs0]) W hb h1 h2 h3)
 have hokA : VsOk xA := by have := VsOk.start.commit 1 [([97], [49])] (by simp [vs0]); rw [ex_a] at this; exact this
 have hokB : VsOk xB := by have := hokA.commit 2 [([97], [50])] (by simp [xA]); rw [ex_b] at this; exact this
 have HC2 := Lib.hid (fun (a : VA) (W : World) (v : Value) (hb : w.heap.size ≤ W.heap.size) (h1 : KT W) (h2 : IL W v [([97], [50])]) (h3 : VAt W w.heap.size a xA) => vcommit_any w.heap.size a xA hokA 2 (by omega) v [([97], [50])] (by simp) (by simp [xA]) (by simp [xA]) (by simp [xA]) W hb h1 h2 h3)
 rw [ex_a] at HC1
 rw [ex_b] at HC2
 have HA1 := Lib.hid (fun (a : VA) (W : World) (h1 : KT W) (h3 : VAt W w.heap.size a xB) => vat_any w.heap.size a xB hokB.short (fun e he => (hokB.rts e he).1) 1 (by omega) W h1 h3)
 rw [ex_at1] at HA1
 have HP := Lib.hid (fun (a : VA) (W : World) (h1 : KT W) (h3 : VAt W w.heap.size a xB) => vprune_any w.heap.size a xB hokB 2 (by omega) (by simp [xB]) (by simp [xB]) W h1 h3)
 have HX : Hid (∀ S I : List Bs, (∀ r, r ∈ S ↔ ∃ e ∈ stayR xB 2, e.2 = r) → (∀ s, s ∈ I ↔ Rch xB.T S s) → (⟨keepT xB.T I, stayR xB 2, xB.new, xB.last, max xB.below 2, xB.L⟩ : Vs) = xC) := Lib.hid (fun S I h1 h2 => by rw [keep_ex h1 h2, stay_ex]; rfl)
 have hokC : VsOk xC := by
  have hmem : VsOk ⟨keepT xB.T [sB], stayR xB 2, xB.new, xB.last, max xB.below 2, xB.L⟩ := hokB.prune 2 (by omega) [sB]
  rw [stay_ex] at hmem
  have : keepT xB.T [sB] = [(sB, eB)] := by
   unfold keepT
   rw [show xB.T = [(sA, eA), (sB, eB)] from rfl, List.filter_cons, if_neg (by simpa using sAB), List.filter_cons, if_pos (by simp)]
   rfl
  rw [this] at hmem
  exact hmem
 have HA2 := Lib.hid (fun (a : VA) (W : World) (h1 : KT W) (h3 : VAt W w.heap.size a xC) => vat_any w.heap.size a xC hokC.short (fun e he => (hokC.rts e he).1) 1 (by omega) W h1 h3)
 rw [ex_at2] at HA2
 have HA3 := Lib.hid (fun (a : VA) (W : World) (h1 : KT W) (h3 : VAt W w.heap.size a xC) => vat_any w.heap.size a xC hokC.short (fun e he => (hokC.rts e he).1) 2 (by omega) W h1 h3)
 rw [ex_at3] at HA3
 have HT := Lib.hid (fun (a : VA) (W : World) (h3 : VAt W w.heap.size a xC) => vtexts_any w.heap.size a xC (by simp [xC]) W h3)
 rw [show xC.T.length = 1 from rfl] at HT
 have HGN : Hid (xB.R.length - (stayR xB 2).length = 1) := Lib.hid (by rw [stay_ex]; rfl)
 clear hk hokA hokB hokC
 go_enter Tryz.func5, Tryz.ntmps5
 go_wp2_with fail
 refine HN.out.mono ?_
 rintro e w1 ⟨a, rfl, hV1, hb1⟩
 have hh1 : (w1.alloc (.cells #[.string ⟨List.toArray ([97])⟩, .string ⟨List.toArray ([49])⟩] 43)).heap[w1.heap.size]? = some (.cells #[.string ⟨List.toArray ([97])⟩, .string ⟨List.toArray ([49])⟩] 43) := heap_alloc_new _ _
 have hbA : Below w1.heap.size w1 (w1.alloc (.cells #[.string ⟨List.toArray ([97])⟩, .string ⟨List.toArray ([49])⟩] 43)) := Below.allocS (Below.refl _ _) _
 have HB1 := Lib.hid (hb1.trans (hbA.mono hb1.size))
 have HQ1 := Lib.hid (HC1.out a _ _ HB1.out.size (HK.out.keep HB1.out) (il_one hh1) (hV1.keep hbA))
 have HV1 := Lib.hid (hV1.keep hbA)
 clear HN hV1 hb1 hh1 hbA HC1
 go_wp2_with fail
 refine HQ1.out.mono ?_
 rintro e w2 ⟨rfl, hV2, hm2⟩
 have hb2 := HV1.out.low hm2 (Nat.le_refl _) HB1.out.size
 have hs2 := HB1.out.trans hb2
 have hh2 : (w2.alloc (.cells #[.string ⟨List.toArray ([97])⟩, .string ⟨List.toArray ([50])⟩] 43)).heap[w2.heap.size]? = some (.cells #[.string ⟨List.toArray ([97])⟩, .string ⟨List.toArray ([50])⟩] 43) := heap_alloc_new _ _
 have hbA : Below w2.heap.size w2 (w2.alloc (.cells #[.string ⟨List.toArray ([97])⟩, .string ⟨List.toArray ([50])⟩] 43)) := Below.allocS (Below.refl _ _) _
 have HB2 := Lib.hid (hs2.trans (hbA.mono hs2.size))
 have HQ2 := Lib.hid (HC2.out a _ _ HB2.out.size (HK.out.keep HB2.out) (il_one hh2) (hV2.keep hbA))
 have HV2 := Lib.hid (hV2.keep hbA)
 clear hV2 hm2 hb2 hs2 hh2 hbA HC2 HQ1 HV1 HB1
 go_wp2_with fail
 refine HQ2.out.mono ?_
 rintro e w3 ⟨rfl, hV3, hm3⟩
 have HB3 := Lib.hid (HB2.out.trans (HV2.out.low hm3 (Nat.le_refl _) HB2.out.size))
 have HQ3 := Lib.hid (HA1.out a _ (HK.out.keep HB3.out) hV3)
 have HV3 := Lib.hid hV3
 clear hV3 hm3 HQ2 HV2 HB2 HA1
 go_wp2_with fail
 refine HQ3.out.mono ?_
 rintro e w4 ⟨hb4, ⟨h0, _⟩ | ⟨_, pt, rfl, hT4⟩⟩
 ·exact absurd rfl h0
 have HB4 := Lib.hid (HB3.out.trans (hb4.mono HB3.out.size))
 have HV4 := Lib.hid (HV3.out.keep hb4)
 have HR4 := Lib.hid (troot_any pt tA w4 hT4)
 rw [HSR.out] at HR4
 have HQ5 := Lib.hid (HP.out a _ (HK.out.keep HB4.out) HV4.out)
 clear hb4 hT4 HQ3 HV3 HB3 HP
 generalize sA = s1 at *
 generalize sB = s2 at *
 go_wp2_with fail
 refine HR4.out.mono ?_
 rintro e w4' ⟨rfl, rfl⟩
 go_wp2_with fail
 refine HQ5.out.mono ?_
 rintro e w5 ⟨rfl, ⟨S, I, hS, hI, hV5⟩, hm5⟩
 rw [HX.out S I hS hI] at hV5
 rw [HGN.out]
 have HB5 := Lib.hid (HB4.out.trans (HV4.out.low hm5 (Nat.le_refl _) HB4.out.size))
 have HV5 := Lib.hid hV5
 have HQ6 := Lib.hid (HA2.out a _ (HK.out.keep HB5.out) hV5)
 clear hV5 hS hI hm5 HX HGN HB4 HV4 HR4 HQ5 HA2
 go_wp2_with fail
 refine HQ6.out.mono ?_
 rintro e w6 ⟨hb6, ⟨_, rfl⟩ | ⟨h0, _⟩⟩
 rotate_left
 ·exact absurd h0 (by simp)
 have HB6 := Lib.hid (HB5.out.trans (hb6.mono HB5.out.size))
 have HV6 := Lib.hid (HV5.out.keep hb6)
 have HQ7 := Lib.hid (HA3.out a _ (HK.out.keep HB6.out) HV6.out)
 clear hb6 HB5 HV5 HQ6 HA3
 go_wp2_with fail
 refine HQ7.out.mono ?_
 rintro e w7 ⟨hb7, ⟨h0, _⟩ | ⟨_, pu, rfl, hT7⟩⟩
 ·exact absurd rfl h0
 have HB7 := Lib.hid (HB6.out.trans (hb7.mono HB6.out.size))
 have HV7 := Lib.hid (HV6.out.keep hb7)
 have HR7 := Lib.hid (troot_any pu tB w7 hT7)
 rw [HSB.out] at HR7
 have HQ8 := Lib.hid (HT.out a _ HV7.out)
 clear hb7 hT7 HQ7 HV6 HB6 HT
 go_wp2_with fail
 refine HR7.out.mono ?_
 rintro e w8 ⟨rfl, rfl⟩
 go_wp2_with fail
 refine HQ8.out.mono ?_
 rintro e w9 ⟨rfl, hb9⟩
 go_wp2_with fail
 go_ret
 exact ⟨rfl, HB7.out.trans (hb9.mono HB7.out.size)⟩
end Go.Proofs.YtjppbomngnomhaaGreatDoor
namespace Go.Proofs.YtjppbomngnomhaaGreatDoor
open Go.ChangeShapes Go.WideShapes Go.ChangeAt Go.RowKit Pl
structure VAct where
 kind : Int
 h : Int
 l : List It
abbrev vact0 : VAct := ⟨0, 0, []⟩
def I64V (n : Int) : Prop := -9223372036854775808 ≤ n ∧ n ≤ 9223372036854775807
def ItS (l : List It) : Prop := ∀ x ∈ l, x.1.length ≤ 9223372036854775807 ∧ x.2.length ≤ 9223372036854775807
def VSrc (w : World) (g o : Nat) (l : List VAct) : Prop := ∀ i, i < l.length → ∃ vl, w.cell? ⟨g, o + i * 3, none⟩ = some (.int .i64 ((l.getD i vact0).kind)) ∧ w.cell? ⟨g, o + i * 3 + 1, none⟩ = some (.int .i64 ((l.getD i vact0).h)) ∧ w.cell? ⟨g, o + i * 3 + 2, none⟩ = some vl ∧ IL w vl (l.getD i vact0).l
def VL (w : World) (v : Value) (l : List VAct) : Prop :=
 ∃ a cap, v = .slice a l.length cap ∧ l.length ≤ cap ∧ cap ≤ maxLen ∧ (l ≠ [] → ∃ g off, a = some ⟨g, off, none⟩ ∧ g < w.heap.size ∧ VSrc w g off l)
def VFit (l : List VAct) : Prop := ∀ i, i < l.length → I64V (l.getD i vact0).kind ∧ I64V (l.getD i vact0).h ∧ ItS (l.getD i vact0).l
theorem VL.keep {W w : World} {v : Value} {l : List VAct} (h : VL W v l) (hb : Below W.heap.size W w) : VL w v l := by
 obtain ⟨a, cap, h1, h2, h3, h4⟩ := h
 refine ⟨a, cap, h1, h2, h3, fun hl => ?_⟩
 obtain ⟨g, off, e, hg, hc⟩ := h4 hl
 refine ⟨g, off, e, Nat.lt_of_lt_of_le hg hb.size, fun i hi => ?_⟩
 obtain ⟨vl, c1, c2, c3, c4⟩ := hc i hi
 exact ⟨vl, (hb.cell (p := ⟨g, off + i * 3, none⟩) hg).trans c1, (hb.cell (p := ⟨g, off + i * 3 + 1, none⟩) hg).trans c2, (hb.cell (p := ⟨g, off + i * 3 + 2, none⟩) hg).trans c3, c4.keep hb⟩
theorem VL.form {w : World} {v : Value} {l : List VAct} (h : VL w v l) : ∃ a c, v = .slice a l.length c := by
 obtain ⟨a, c, e, _⟩ := h
 exact ⟨a, c, e⟩
theorem VL.small {w : World} {v : Value} {l : List VAct} (h : VL w v l) : l.length ≤ 9223372036854775807 := by
 obtain ⟨a, c, e, h1, h2, _⟩ := h
 unfold maxLen at h2
 omega
theorem VL.at {w : World} {a : Option Addr} {c : Nat} {l : List VAct} (h : VL w (.slice a l.length c) l) (i : Nat) (hi : i < l.length) :
  ∃ g off va vc, a = some ⟨g, off, none⟩ ∧ g < w.heap.size ∧ w.cell? ⟨g, off + i * 3, none⟩ = some (.int .i64 ((l.getD i vact0).kind)) ∧ w.cell? ⟨g, off + i * 3 + 1, none⟩ = some (.int .i64 ((l.getD i vact0).h)) ∧ w.cell? ⟨g, off + i * 3 + 2, none⟩ = some (.slice va (l.getD i vact0).l.length vc) ∧ IL w (.slice va (l.getD i vact0).l.length vc) (l.getD i vact0).l := by
 obtain ⟨a', c', e, h1, h2, h4⟩ := h
 injection e with e _ _
 obtain ⟨g, off, e2, hg, hs⟩ := h4 (by intro e; rw [e] at hi; simp at hi)
 obtain ⟨vl, c1, c2, c3, c4⟩ := hs i hi
 obtain ⟨va, vc, rfl⟩ := c4.form
 exact ⟨g, off, va, vc, e.trans e2, hg, c1, c2, c3, c4⟩
theorem one_ofV {w : World} {s : Sh} {cs : List Value} (h : s.Ok w cs) (h1 : s.cells = 1) : ∃ v, cs = [v] := by
 have := h.len
 rw [h1] at this
 exact List.length_eq_one_iff.1 this
theorem wf_i64V {k : Int} (h : (Lit.int .i64 k).wf = true) : I64V k := by
 have h1 : IntKind.i64.min = -9223372036854775808 := by decide
 have h2 : IntKind.i64.max = 9223372036854775807 := by decide
 unfold I64V
 simpa only [Lit.wf, Bool.and_eq_true, decide_eq_true_eq, h1, h2] using h
theorem int_valV {W : World} {v : Value} (h : Sh.Val W (.int .i64) v) : ∃ x : Int, v = .int .i64 x ∧ I64V x := by
 obtain ⟨k, hk, hw⟩ := h
 exact ⟨k, by simpa using hk, wf_i64V hw⟩
theorem vl_val {W : World} {v : Value} (h : Sh.Val W (.slice 3 (.pair (.int .i64) (.pair (.int .i64) (.pair (.slice 2 (.pair .str (.pair .str .unit))) .unit)))) v) : ∃ l : List VAct, VL W v l ∧ VFit l := by
 rcases (show _ ∨ _ from h) with h | ⟨a, len, cap, hv, hlc, hcm, hel⟩
 ·obtain rfl : v = .slice none 0 0 := by simpa using h
  exact ⟨[], ⟨none, 0, rfl, Nat.le_refl _, by unfold maxLen; omega, fun h => absurd rfl h⟩, fun i hi => by simp at hi⟩
 ·obtain rfl : v = .slice (some a) len cap := by simpa using hv
  rcases Nat.eq_zero_or_pos len with h0 | hpos
  ·subst h0
   exact ⟨[], ⟨some a, cap, rfl, hlc, hcm, fun h => absurd rfl h⟩, fun i hi => by simp at hi⟩
  ·obtain ⟨hs, hc⟩ := slice_cells (by decide) hpos hel
   have hf : ∀ i, ∃ x : VAct, i < len → (∃ vl, (∀ j, j < 3 → W.cell? ⟨a.block, a.off + i * 3 + j, none⟩ = ([.int .i64 x.kind, .int .i64 x.h, vl] : List Value)[j]?) ∧ IL W vl x.l) ∧ I64V x.kind ∧ I64V x.h ∧ ItS x.l := by
    intro i
    by_cases hi : i < len
    ·obtain ⟨cs, ⟨x1, y1, rfl, ⟨n1, rfl, hn1⟩, x2, y2, rfl, ⟨n2, rfl, hn2⟩, x3, y3, rfl, hz1, hu⟩, _, hj⟩ := hc i hi
     obtain rfl : y3 = [] := hu
     obtain ⟨vl, rfl⟩ := one_ofV hz1 rfl
     obtain ⟨ll, hll, hss⟩ := item_val (v := vl) hz1
     exact ⟨⟨n1, n2, ll⟩, fun _ => ⟨⟨vl, hj, hll⟩, wf_i64V hn1, wf_i64V hn2, hss⟩⟩
    ·exact ⟨vact0, fun h => absurd h hi⟩
   obtain ⟨f, hf⟩ := Classical.axiomOfChoice hf
   obtain ⟨b, off, sp⟩ := a
   simp only at hs
   subst hs
   have hg : ∀ i, i < len → ((List.range len).map f).getD i vact0 = f i := fun i hi' => by simp [List.getD, hi']
   refine ⟨(List.range len).map f, ⟨some ⟨b, off, none⟩, cap, by simp, by simpa using hlc, hcm, fun _ => ⟨b, off, rfl, ?_, fun i hi => ?_⟩⟩, fun i hi => ?_⟩
   ·obtain ⟨⟨vl, hh, _⟩, _⟩ := hf 0 hpos
    have := hh 0 (by omega)
    simp only [List.getElem?_cons_zero] at this
    exact cell_ltI this
   ·have hi' : i < len := by simpa using hi
    obtain ⟨⟨vl, hh, r⟩, _⟩ := hf i hi'
    rw [hg i hi']
    exact ⟨vl, hh 0 (by omega), hh 1 (by omega), hh 2 (by omega), r⟩
   ·have hi' : i < len := by simpa using hi
    rw [hg i hi']
    exact (hf i hi').2
end Go.Proofs.YtjppbomngnomhaaGreatDoor
namespace Go.Proofs.YtjppbomngnomhaaGreatDoor
open Go.RowKit Pl
def ShortA (x : VAct) : Prop := x.l.length ≤ 10 ∧ ∀ y ∈ x.l, y.1.length ≤ 100 ∧ y.2.length ≤ 100
def ShortV (l : List VAct) : Prop := l.length ≤ 10 ∧ ∀ i, i < l.length → ShortA (l.getD i vact0)
def LongQ (w : World) (l : List VAct) (e : Ending) (w' : World) : Prop := ∃ b, e = .returned (.bool b) ∧ Below w.heap.size w w' ∧ (b = false → ShortV l)
theorem vlong_any (v : Value) (l : List VAct) (hf : VFit l) (w : World) (hv : VL w v l) :
  Calls Tryz.prog 6 #[v] w (LongQ w l) := by
 obtain ⟨va, vc, rfl⟩ := hv.form
 have hsm := hv.small
 have HV := Lib.hid hv
 have HF := Lib.hid hf
 clear hv hf
 by_cases h1 : 10 < l.length
 ·have d1 : decide ((10 : Int) < (l.length : Int)) = true := by simp; omega
  clear h1
  go_enter Tryz.func6, Tryz.ntmps6
  go_wp2_with fail
  go_ret
  exact ⟨true, rfl, Below.refl _ _, fun h => by cases h⟩
 ·have d1 : decide ((10 : Int) < (l.length : Int)) = false := by simp; omega
  have HL : Hid (l.length ≤ 10) := Lib.hid (by omega)
  clear h1
  go_enter Tryz.func6, Tryz.ntmps6
  go_wp2_with fail
  go_loopw [3, 4] (fun s3 s4 wr => ∃ i : Nat, s3 = .int .i64 i ∧ i ≤ l.length ∧ Hid (∀ j, j < i → ShortA (l.getD j vact0)) ∧ Hid (Below w.heap.size w wr)) (fun s3 _ _ => l.length - (intOf s3).toNat)
  case atStart => exact ⟨0, rfl, Nat.zero_le _, Lib.hid (fun j hj => absurd hj (by omega)), Lib.hid (Below.refl _ _)⟩
  case round =>
   obtain ⟨i, rfl, hi, HS, HB⟩ := hrel
   obtain ⟨wr, hwr⟩ := Below.name HB.out
   subst hwr
   have hl10 := HL.out
   by_cases hlt : i < l.length
   ·have e0 : decide ((i : Int) < (l.length : Int)) = true := by simp; omega
    have e1 : decide (i < l.length) = true := by simp; omega
    have i0 : 0 ≤ (i : Int) ∧ (i : Int) < (l.length : Int) := by omega
    obtain ⟨g, off, ia, ic, rfl, hg, c0, c1, c2, cI⟩ := (HV.out.keep HB.out).at i hlt
    have hit := (HF.out i hlt).2.2
    have HIS : Hid (∀ x, ShortA (l.getD i vact0) → x = i → ShortA (l.getD x vact0)) := Lib.hid (fun x h e => by rw [e]; exact h)
    generalize l.getD i vact0 = ac at *
    have HI := Lib.hid cI
    have HIT := Lib.hid hit
    have hism := cI.small
    clear cI hit
    by_cases h2 : 10 < ac.l.length
    ·have d2 : decide ((10 : Int) < (ac.l.length : Int)) = true := by simp; omega
     clear h2
     go_wp2_with fail
     go_ret
     exact ⟨true, rfl, HB.out, fun h => by cases h⟩
    ·have d2 : decide ((10 : Int) < (ac.l.length : Int)) = false := by simp; omega
     have HA : Hid (ac.l.length ≤ 10) := Lib.hid (by omega)
     clear h2
     go_wp2_with fail
     go_loopw [4] (fun s4 wq => ∃ k : Nat, s4 = .int .i64 k ∧ k ≤ ac.l.length ∧ Hid (∀ j, j < k → (ac.l.getD j ([], [])).1.length ≤ 100 ∧ (ac.l.getD j ([], [])).2.length ≤ 100) ∧ Hid (Below wr.heap.size wr wq)) (fun s4 _ => ac.l.length - (intOf s4).toNat)
     case atStart => exact ⟨0, rfl, Nat.zero_le _, Lib.hid (fun j hj => absurd hj (by omega)), Lib.hid (Below.refl _ _)⟩
     case round =>
      obtain ⟨k, rfl, hk, HK, HQ⟩ := hrel
      obtain ⟨wq, hwq⟩ := Below.name HQ.out
      subst hwq
      have c2 := keepC HQ.out c2
      have ha10 := HA.out
      by_cases hlk : k < ac.l.length
      ·have k0 : decide ((k : Int) < (ac.l.length : Int)) = true := by simp; omega
       have k1 : decide (k < ac.l.length) = true := by simp; omega
       have k2 : 0 ≤ (k : Int) ∧ (k : Int) < (ac.l.length : Int) := by omega
       obtain ⟨g2, off2, rfl, hg2, q1, q2⟩ := (HI.out.keep HQ.out).at k hlk
       have hmem : ac.l.getD k ([], []) ∈ ac.l := by
        rw [List.getD_eq_getElem?_getD, List.getElem?_eq_getElem hlk]
        exact List.getElem_mem hlk
       obtain ⟨s1, s2⟩ := HIT.out _ hmem
       have HKS : Hid (((ac.l.getD k ([], [])).1.length ≤ 100 ∧ (ac.l.getD k ([], [])).2.length ≤ 100) → ∀ j, j < k + 1 → (ac.l.getD j ([], [])).1.length ≤ 100 ∧ (ac.l.getD j ([], [])).2.length ≤ 100) := Lib.hid (fun h j hj => by
        rcases Nat.lt_or_ge j k with h1 | h1
        ·exact HK.out j h1
        ·have : j = k := by omega
         subst this; exact h)
       clear hmem
       generalize ac.l.getD k ([], []) = y at *
       obtain ⟨y1, y2⟩ := y
       simp only at q1 q2 s1 s2
       by_cases h3 : 100 < y1.length
       ·have d3 : decide ((100 : Int) < (y1.length : Int)) = true := by simp; omega
        clear h3
        go_wp2_with fail
        go_ret
        exact ⟨true, rfl, HB.out.trans (HQ.out.mono HB.out.size), fun h => by cases h⟩
       ·have d3 : decide ((100 : Int) < (y1.length : Int)) = false := by simp; omega
        by_cases h4 : 100 < y2.length
        ·have d4 : decide ((100 : Int) < (y2.length : Int)) = true := by simp; omega
         clear h3 h4
         go_wp2_with fail
         go_ret
         exact ⟨true, rfl, HB.out.trans (HQ.out.mono HB.out.size), fun h => by cases h⟩
        ·have d4 : decide ((100 : Int) < (y2.length : Int)) = false := by simp; omega
         have HN := Lib.hid (HKS.out ⟨by show y1.length ≤ 100; omega, by show y2.length ≤ 100; omega⟩)
         clear h3 h4
         go_wp2_with fail
         exact ⟨⟨k + 1, by go_num, by omega, HN, HQ⟩, by simp [intOf]; omega⟩
      ·have k0 : decide ((k : Int) < (ac.l.length : Int)) = false := by simp; omega
       have k1 : decide (k < ac.l.length) = false := by simp; omega
       have HA2 : Hid (∀ j, j < i + 1 → ShortA (l.getD j vact0)) := Lib.hid (fun j hj => by
        rcases Nat.lt_or_ge j i with h1 | h1
        ·exact HS.out j h1
        ·refine HIS.out j ⟨HA.out, fun y hy => ?_⟩ (by omega)
         obtain ⟨n, hn, rfl⟩ := List.getElem_of_mem hy
         have := HK.out n (by omega)
         rw [List.getD_eq_getElem?_getD, List.getElem?_eq_getElem hn] at this
         exact this)
       go_wp2_with fail
       exact ⟨⟨i + 1, by go_num, by omega, HA2, Lib.hid (HB.out.trans (HQ.out.mono HB.out.size))⟩, by simp [intOf]; omega⟩
   ·have e0 : decide ((i : Int) < (l.length : Int)) = false := by simp; omega
    have e1 : decide (i < l.length) = false := by simp; omega
    have he : i = l.length := by omega
    subst he
    have HSV : Hid (ShortV l) := Lib.hid ⟨HL.out, HS.out⟩
    go_wp2_with fail
    go_ret
    exact ⟨false, rfl, HB.out, fun _ => HSV.out⟩
end Go.Proofs.YtjppbomngnomhaaGreatDoor
namespace Go.Proofs.YtjppbomngnomhaaGreatDoor
open Go.RowKit Go.Sort Pl
structure VsUp (x : Vs) : Prop where
 up : (hrs x.R).Pairwise (· < ·)
 top : ∀ k ∈ hrs x.R, 0 ≤ k ∧ k ≤ x.last
 has : x.R ≠ [] → x.last ∈ hrs x.R
theorem VsUp.start : VsUp vs0 := ⟨List.Pairwise.nil, fun _ h => (by cases h), fun h => absurd rfl h⟩
theorem VsUp.commit {x : Vs} (hx : VsUp x) (h : Int) (l : List It) : VsUp (commitV x h l).1 := by
 unfold commitV
 split
 ·exact hx
 ·rename_i h1
  split
  ·exact hx
  ·rename_i h2
   split
   ·exact hx
   ·refine ⟨?_, fun k hk => ?_, fun _ => ?_⟩
    ·show (hrs (x.R ++ [(h, _)])).Pairwise _
     unfold hrs
     rw [List.map_append, List.pairwise_append]
     refine ⟨hx.up, by simp, fun a ha b hb => ?_⟩
     simp only [List.map_cons, List.map_nil, List.mem_singleton] at hb
     have := (hx.top a ha).2
     omega
    ·show 0 ≤ k ∧ k ≤ h
     unfold hrs at hk
     rw [List.map_append, List.mem_append] at hk
     rcases hk with hk | hk
     ·have := hx.top k hk
      omega
     ·simp only [List.map_cons, List.map_nil, List.mem_singleton] at hk
      omega
    ·show h ∈ hrs (x.R ++ [(h, _)])
     simp [hrs]
theorem stay_hrs (x : Vs) (b : Int) : hrs (stayR x b) = (hrs x.R).filter (fun k => !goesB b x.last k) := by
 unfold stayR hrs
 rw [List.filter_map]
 rfl
theorem VsUp.prune {x : Vs} (hx : VsUp x) (b : Int) (I : List Bs) : VsUp ⟨keepT x.T I, stayR x b, x.new, x.last, max x.below b, x.L⟩ := by
 refine ⟨?_, fun k hk => ?_, fun hne => ?_⟩
 ·show (hrs (stayR x b)).Pairwise _
  rw [stay_hrs]
  exact List.Pairwise.filter _ hx.up
 ·have hk' : k ∈ hrs (stayR x b) := hk
  rw [stay_hrs] at hk'
  exact hx.top k (List.mem_filter.1 hk').1
 ·show x.last ∈ hrs (stayR x b)
  rw [stay_hrs]
  have : x.R ≠ [] := fun e => hne (by show stayR x b = []; unfold stayR; rw [e]; rfl)
  exact List.mem_filter.2 ⟨hx.has this, by simp [goesB]⟩
theorem sortZ_id {l : List Int} (h : l.Pairwise (· < ·)) : sortZ l = l := by
 unfold sortZ
 exact List.mergeSort_of_pairwise (h.imp (fun h => by simp only [leI, decide_eq_true_eq]; omega))
theorem up_at {l : List Int} (h : l.Pairwise (· < ·)) (i j : Nat) (hij : i < j) (hj : j < l.length) : l.getD i 0 < l.getD j 0 := by
 rw [List.getD_eq_getElem?_getD, List.getD_eq_getElem?_getD, List.getElem?_eq_getElem hj, List.getElem?_eq_getElem (show i < l.length by omega)]
 exact List.pairwise_iff_getElem.1 h i j (by omega) hj hij
theorem last_at {l : List Int} {t : Int} (h : l.Pairwise (· < ·)) (ht : t ∈ l) (hm : ∀ k ∈ l, k ≤ t) (i : Nat) (hi : i < l.length) : l.getD i 0 = t ↔ i = l.length - 1 := by
 obtain ⟨j, hj, rfl⟩ := List.getElem_of_mem ht
 have e : ∀ n (hn : n < l.length), l.getD n 0 = l[n] := fun n hn => by rw [List.getD_eq_getElem?_getD, List.getElem?_eq_getElem hn]; rfl
 have hjl : j = l.length - 1 := by
  rcases Nat.lt_or_ge j (l.length - 1) with h1 | h1
  ·have h2 := up_at h j (l.length - 1) h1 (by omega)
   rw [e j hj, e _ (show l.length - 1 < l.length by omega)] at h2
   have h3 := hm l[l.length - 1] (List.getElem_mem _)
   omega
  ·omega
 constructor
 ·intro h1
  rcases Nat.lt_or_ge i j with h2 | h2
  ·have h3 := up_at h i j h2 hj
   rw [e i hi, e j hj] at h3
   rw [e i hi] at h1
   omega
  ·omega
 ·intro h1
  have : i = j := by omega
  subst this
  exact e i hi
theorem stays_at {l : List Int} {t b : Int} (h : l.Pairwise (· < ·)) (ht : t ∈ l) (hm : ∀ k ∈ l, k ≤ t) (i : Nat) (hi : i < l.length) : (decide (b ≤ l.getD i 0) || decide (i = l.length - 1)) = !goesB b t (l.getD i 0) := by
 have h1 := last_at h ht hm i hi
 unfold goesB
 generalize l.getD i 0 = g at *
 by_cases h3 : i = l.length - 1
 ·have h4 : g = t := h1.2 h3
  have e1 : decide (i = l.length - 1) = true := by simpa using h3
  have e2 : decide (g ≠ t) = false := by simpa using h4
  rw [e1, e2]; simp
 ·have h4 : ¬ g = t := fun e => h3 (h1.1 e)
  have e1 : decide (i = l.length - 1) = false := by simpa using h3
  have e2 : decide (g ≠ t) = true := by simpa using h4
  rw [e1, e2]
  by_cases h2 : b ≤ g
  ·have h5 : ¬ g < b := by omega
   simp [h2, h5]
  ·have h5 : g < b := by omega
   simp [h2, h5]
def keptZ (b t : Int) (l : List Int) : List Int := l.filter fun k => !goesB b t k
theorem kept_yes {b t : Int} {l : List Int} {k : Int} (h : goesB b t k = false) : keptZ b t (l ++ [k]) = keptZ b t l ++ [k] := by simp [keptZ, List.filter_append, h]
theorem kept_no {b t : Int} {l : List Int} {k : Int} (h : goesB b t k = true) : keptZ b t (l ++ [k]) = keptZ b t l := by simp [keptZ, List.filter_append, h]
theorem kept_at {b t : Int} {l : List Int} {i : Nat} (hi : i < l.length) (h : goesB b t (l.getD i 0) = false) : (keptZ b t (l.take i)).length < (keptZ b t l).length ∧ (keptZ b t l).getD (keptZ b t (l.take i)).length 0 = l.getD i 0 := by
 have e : keptZ b t l = keptZ b t (l.take i) ++ (l.getD i 0 :: keptZ b t (l.drop (i + 1))) := by
  conv => lhs; rw [← List.take_append_drop i l, dropZ l i hi]
  generalize l.getD i 0 = g at *
  simp [keptZ, List.filter_append, List.filter_cons, h]
 rw [e]
 refine ⟨by simp, ?_⟩
 rw [List.getD_eq_getElem?_getD, List.getElem?_append_right (Nat.le_refl _)]
 simp
theorem commit_len (x : Vs) (hx : VsOk x) (h : Int) (l : List It) : (commitV x h l).1.L.length ≤ x.L.length + l.length ∧ (commitV x h l).1.T.length ≤ x.T.length + 17 * (x.L.length + l.length) ∧ (commitV x h l).1.R.length ≤ x.R.length + 1 ∧ (commitV x h l).1.below = x.below := by
 unfold commitV
 split
 ·exact ⟨by simp, by simp, by simp, rfl⟩
 ·split
  ·exact ⟨by simp, by simp, by simp, rfl⟩
  ·split
   ·exact ⟨by simp, by simp, by simp, rfl⟩
   ·rename_i h3
    obtain ⟨g1, g2⟩ := chgs_good l x.new x.L hx.gt (by simpa using h3)
    have h4 := saveT_len x.T (nodesT (chgsR x.new x.L l).1.1)
    have h5 := g1.nodes
    refine ⟨g2, ?_, by simp, rfl⟩
    show (saveT x.T _).length ≤ _
    omega
theorem stay_again (x : Vs) (b : Int) (h : ∀ k ∈ hrs x.R, goesB b x.last k = false) : stayR x b = x.R := by
 unfold stayR
 rw [List.filter_eq_self]
 intro e he
 rw [h e.1 (List.mem_map.2 ⟨e, he, rfl⟩)]
 rfl
end Go.Proofs.YtjppbomngnomhaaGreatDoor
namespace Go.Proofs.YtjppbomngnomhaaGreatDoor
open Go.RowKit Pl
structure VsG (x : Vs) (i : Nat) : Prop where
 ok : VsOk x
 up : VsUp x
 L : x.L.length ≤ 10 * i
 T : x.T.length ≤ 1700 * i
 R : x.R.length ≤ i
theorem VsG.start : VsG vs0 0 := ⟨VsOk.start, VsUp.start, by simp [vs0], by simp [vs0], by simp [vs0]⟩
theorem VsG.commit {x : Vs} {i : Nat} (h : VsG x i) (hi : i < 10) (n : Int) (l : List It) (hl : l.length ≤ 10) : VsG (commitV x n l).1 (i + 1) := by
 obtain ⟨c1, c2, c3, _⟩ := commit_len x h.ok n l
 have h1 := h.L
 have h2 := h.T
 have h3 := h.R
 exact ⟨h.ok.commit n l (by omega), h.up.commit n l, by omega, by omega, by omega⟩
theorem com_again (x : Vs) (b h : Int) (hh : h = min (max b 1) 1048577 - 1) (hx : b ≤ x.below) (hb : 1 ≤ b) : commitV x h [] = (x, ([], 120)) := by
 unfold commitV
 rw [if_neg (by omega), if_pos (by omega)]
theorem go_of {p q g : Bool} (h : (p || q) = !g) : g = !(p || q) := by cases p <;> cases q <;> cases g <;> simp_all
theorem ZRow.modZ {W w : World} {b : Nat} {v : Value} {l : List Int} (h : ZRow W b v l) {m : List Nat} (hm : Mod m W w) (hn : ∀ k ∈ m, k < b) : ZRow w b v l := by
 refine h.kept (fun k hk => hm.block k ?_ (fun hx => ?_))
 ·rcases h.cells with ⟨e, _⟩ | ⟨g3, cap3, e, _, h4, _⟩
  ·rw [e] at hk; cases hk
  ·rw [e] at hk; cases hk; exact h4
 ·have := h.own k hk
  have := hn k hx
  omega
theorem vgoes_any (v : Value) (l : List VAct) (b : Int) (hf : VFit l) (hb : I64V b) (w : World) (hk : KT w) (hv : VL w v l) :
  Calls Tryz.prog 3 #[v, .int .i64 b] w fun e w' => e = .returned (.bool true) ∧ Below w.heap.size w w' := by
 obtain ⟨va, vc, rfl⟩ := hv.form
 have hsm := hv.small
 have HV := Lib.hid hv
 have HF := Lib.hid hf
 have HK := Lib.hid hk
 have HW := Lib.hid (works12_any w hk)
 have HLG := Lib.hid (fun W (h : VL W (.slice va l.length vc) l) => vlong_any _ l hf W h)
 clear hv hf hk
 go_enter Tryz.func3, Tryz.ntmps3
 go_wp2_with fail
 refine HW.out.mono ?_
 rintro e w1 ⟨rfl, hb1⟩
 have HB1 := Lib.hid hb1
 have HL1 := Lib.hid (HLG.out _ (HV.out.keep hb1))
 clear hb1 HW HLG
 go_wp2_with fail
 refine HL1.out.mono ?_
 rintro e w2 ⟨bl, rfl, hb2, hsv⟩
 have HB2 := Lib.hid (HB1.out.trans (hb2.mono HB1.out.size))
 clear hb2 HL1 HB1
 cases bl
 rotate_left
 ·go_wp2_with fail
  go_ret
  exact ⟨rfl, HB2.out⟩
 have HSV := Lib.hid (hsv rfl)
 have HN := Lib.hid (vnew_any w2)
 clear hsv
 go_wp2_with fail
 refine HN.out.mono ?_
 rintro e w3 ⟨a, rfl, hV3, hb3⟩
 have HB3 := Lib.hid (HB2.out.trans (hb3.mono HB2.out.size))
 have HV3 := Lib.hid hV3
 have HS2 := Lib.hid HB2.out.size
 have HS3 := Lib.hid hb3.size
 clear hV3 hb3 HN HB2
 go_wp2_with fail
 go_loopw [26, 7] (fun s26 _ wr => ∃ (i : Nat) (x : Vs), s26 = .int .i64 i ∧ i ≤ l.length ∧ Hid (VAt wr w2.heap.size a x) ∧ Hid (VsG x i) ∧ Hid (Below w.heap.size w wr) ∧ Hid (w2.heap.size ≤ wr.heap.size)) (fun s26 _ _ => l.length - (intOf s26).toNat)
 case atStart => exact ⟨0, vs0, rfl, Nat.zero_le _, HV3, Lib.hid VsG.start, HB3, HS3⟩
 case round =>
  obtain ⟨i, x, rfl, hi, HVr, HGr, HBr, HSr⟩ := hrel
  obtain ⟨wr, hwr⟩ := Below.name HBr.out
  subst hwr
  have hl10 := HSV.out.1
  by_cases hlt : i < l.length
  ·have e0 : decide ((i : Int) < (l.length : Int)) = true := by simp; omega
   have i0 : 0 ≤ (i : Int) ∧ (i : Int) < (l.length : Int) := by omega
   obtain ⟨g, off, ia, ic, rfl, hg, c0, c1, c2, cI⟩ := (HV.out.keep HBr.out).at i hlt
   have hsa := HSV.out.2 i hlt
   have hfh := (HF.out i hlt).2.1
   generalize l.getD i vact0 = ac at *
   have hbA : Below wr.heap.size wr (wr.alloc (.cells #[.int .i64 ac.kind, .int .i64 ac.h, .slice ia ac.l.length ic] 29)) := Below.allocS (Below.refl _ _) _
   have hsz := HSr.out
   have hbr := HBr.out.trans (hbA.mono HBr.out.size)
   have HC := Lib.hid (vcommit_any w2.heap.size a x HGr.out.ok ac.h hfh _ ac.l (fun y hy => by have := hsa.2 y hy; omega) (by have := HGr.out.L; have := hsa.1; omega) (by have := HGr.out.T; omega) (by have := HGr.out.R; omega) _ (Nat.le_trans hsz hbA.size) (HK.out.keep hbr) (cI.keep hbA) (HVr.out.keep hbA))
   have HGN := Lib.hid (HGr.out.commit (by omega) ac.h ac.l hsa.1)
   have HVA := Lib.hid (HVr.out.keep hbA)
   have HBA := Lib.hid hbr
   have HSA : Hid (w2.heap.size ≤ (wr.alloc (.cells #[.int .i64 ac.kind, .int .i64 ac.h, .slice ia ac.l.length ic] 29)).heap.size) := Lib.hid (Nat.le_trans hsz hbA.size)
   clear hsa hfh cI hbA hsz hbr
   go_wp2_with fail
   refine HC.out.mono ?_
   rintro e w4 ⟨rfl, hV4, hm4⟩
   have hb4 := HVA.out.low hm4 (Nat.le_refl _) HSA.out
   have HV4 := Lib.hid hV4
   have HB4 := Lib.hid (HBA.out.trans (hb4.mono HS2.out))
   have HS4 := Lib.hid (Nat.le_trans HSA.out hm4.size)
   clear hV4 hm4 hb4 HC
   go_wp2_with fail
   exact ⟨⟨i + 1, (commitV x ac.h ac.l).1, by go_num, by omega, HV4, HGN, HB4, HS4⟩, by simp [intOf]; omega⟩
  ·have e0 : decide ((i : Int) < (l.length : Int)) = false := by simp; omega
   have hi10 : i ≤ 10 := by omega
   have HX := Lib.hid HGr.out.ok
   have HU := Lib.hid HGr.out.up
   have hGL := HGr.out.L
   have hGT := HGr.out.T
   have hGR := HGr.out.R
   have HKr := Lib.hid (HK.out.keep HBr.out)
   have HH1 := Lib.hid (vheights_any _ a x (by omega) _ HVr.out)
   have HVV := Lib.hid (HVr.out.typ.lt)
   have HVS := Lib.hid (HVr.out.sto.blt)
   have HVR := Lib.hid (HVr.out.roots.lt)
   have HLE : Hid ((hrs x.R).length ≤ 10) := Lib.hid (by unfold hrs; rw [List.length_map]; omega)
   have HTL : Hid (x.T.length ≤ 17000) := Lib.hid (by omega)
   have HLL : Hid (x.L.length ≤ 100) := Lib.hid (by omega)
   have HRL : Hid (x.R.length ≤ 10) := Lib.hid (by omega)
   have HHN : Hid (∀ k ∈ hrs x.R, 0 ≤ k ∧ k ≤ 1048576) := Lib.hid (fun k hk => by
    have h1 := HU.out.top k hk
    have h2 := HX.out.last
    omega)
   rw [sortZ_id HU.out.up] at HH1
   clear hl10 hi hi10 HV3 HB3 HS3 hGL hGT hGR HGr hsm
   go_wp2_with fail
   refine HH1.out.mono ?_
   rintro e wH ⟨v1, rfl, hz1, hb1⟩
   obtain ⟨z1, zc1, rfl⟩ := hz1.form
   obtain ⟨WH, hWH⟩ := Below.name hb1
   subst hWH
   have HV5 := Lib.hid (HVr.out.keep hb1)
   have HZ5 := Lib.hid hz1
   have HK5 := Lib.hid (HKr.out.keep hb1)
   have HB5 := Lib.hid (HBr.out.trans (hb1.mono HBr.out.size))
   have HS5 := Lib.hid (Nat.le_trans HSr.out hb1.size)
   have HP := Lib.hid (vprune_any _ a x HX.out b hb (by have := HTL.out; omega) (by have := HRL.out; omega) _ HK5.out HV5.out)
   clear hz1 hb1 HH1 HVr HKr HBr
   go_wp2_with fail
   refine HP.out.mono ?_
   rintro e w6 ⟨rfl, ⟨S, I, _, _, hV6⟩, hm6⟩
   obtain ⟨W6, hW6⟩ := Mod.name hm6
   subst hW6
   have hml : ∀ k ∈ [a.v, a.rb, a.sb], k < wr.heap.size := by
    intro k hk
    simp only [List.mem_cons, List.not_mem_nil, or_false] at hk
    rcases hk with rfl | rfl | rfl
    ·exact HVV.out
    ·exact HVR.out
    ·exact HVS.out
   have HZ6 := Lib.hid (HZ5.out.modZ hm6 hml)
   have hb6 := HV5.out.low hm6 (Nat.le_refl _) HS5.out
   have HB6 := Lib.hid (HB5.out.trans (hb6.mono HS2.out))
   have HS6 := Lib.hid (Nat.le_trans HS5.out hm6.size)
   have HX6 := Lib.hid (HX.out.prune b hb.2 I)
   have HU6 := Lib.hid (HU.out.prune b I)
   have HV6 := Lib.hid hV6
   have hks : (keepT x.T I).length ≤ x.T.length := List.length_filter_le _ _
   have HTL6 : Hid ((keepT x.T I).length ≤ 17000) := Lib.hid (by have := HTL.out; omega)
   have hrs6 : (stayR x b).length ≤ x.R.length := List.length_filter_le _ _
   have HRL6 : Hid ((stayR x b).length ≤ 10) := Lib.hid (by have := HRL.out; omega)
   have HRE : Hid (hrs (stayR x b) = keptZ b x.last (hrs x.R)) := Lib.hid (stay_hrs x b)
   have HST : Hid (∀ i, i < (hrs x.R).length → (decide (b ≤ (hrs x.R).getD i 0) || decide (i = (hrs x.R).length - 1)) = !goesB b x.last ((hrs x.R).getD i 0)) := Lib.hid (fun i hi => stays_at HU.out.up (HU.out.has (by intro e; rw [e] at hi; simp [hrs] at hi)) (fun k hk => (HU.out.top k hk).2) i hi)
   have HH2 := Lib.hid (vheights_any _ a ⟨keepT x.T I, stayR x b, x.new, x.last, max x.below b, x.L⟩ (by have := HRL6.out; show (stayR x b).length ≤ 100000; omega) _ HV6.out)
   have HFS : Hid (∀ k ∈ hrs x.R, goesB b x.last k = false → k ∈ hrs (stayR x b)) := Lib.hid (fun k hk hg => by rw [HRE.out]; exact List.mem_filter.2 ⟨hk, by rw [hg]; rfl⟩)
   have HFN : Hid (∀ k ∈ hrs x.R, goesB b x.last k = true → rootV ⟨keepT x.T I, stayR x b, x.new, x.last, max x.below b, x.L⟩ k = ([], 120)) := Lib.hid (fun k hk hg => by
    have h1 : findR (stayR x b) k = none := findR_out (by rw [HRE.out]; intro hm; have := (List.mem_filter.1 hm).2; rw [hg] at this; cases this)
    unfold rootV
    rw [h1]
    have h2 : k < max x.below b := by
     unfold goesB at hg
     simp only [Bool.and_eq_true, decide_eq_true_eq] at hg
     omega
    exact if_pos h2)
   have HFY : Hid (∀ k ∈ hrs x.R, goesB b x.last k = false → ∃ r, rootV ⟨keepT x.T I, stayR x b, x.new, x.last, max x.below b, x.L⟩ k = (r, 0)) := Lib.hid (fun k hk hg => by
    obtain ⟨r, h1, _⟩ := findR_in (HFS.out k hk hg)
    exact ⟨r, by unfold rootV; rw [h1]⟩)
   rw [sortZ_id HU6.out.up] at HH2
   have HLN : Hid (x.R.length = (hrs x.R).length) := Lib.hid (by unfold hrs; rw [List.length_map])
   have HLN6 : Hid ((stayR x b).length = (hrs (stayR x b)).length) := Lib.hid (by unfold hrs; rw [List.length_map])
   obtain ⟨x6, hx6⟩ : ∃ y : Vs, y = ⟨keepT x.T I, stayR x b, x.new, x.last, max x.below b, x.L⟩ := ⟨_, rfl⟩
   have HX61 : Hid (x6.R = stayR x b) := Lib.hid (by rw [hx6])
   have HX62 : Hid (x6.last = x.last) := Lib.hid (by rw [hx6])
   have HX63 : Hid (x6.below = max x.below b) := Lib.hid (by rw [hx6])
   have HX64 : Hid (x6.L.length ≤ 100) := Lib.hid (by rw [hx6]; exact HLL.out)
   have HX65 : Hid (x6.T.length ≤ 17000) := Lib.hid (by rw [hx6]; exact HTL6.out)
   rw [← hx6] at HX6 HU6 HV6 HFN HFY HH2
   rw [HX61.out] at HH2
   clear hV6 hm6 hml hb6 hks hrs6 HP HV5 HZ5 HB5 HS5 hx6
   go_wp2_with fail
   refine HH2.out.mono ?_
   rintro e w7 ⟨v2, rfl, hz2, hb2⟩
   obtain ⟨z2, zc2, rfl⟩ := hz2.form
   obtain ⟨W7, hW7⟩ := Below.name hb2
   subst hW7
   have HV7 := Lib.hid (HV6.out.keep hb2)
   have HZ7 := Lib.hid (HZ6.out.keep hb2)
   have HB7 := Lib.hid (HB6.out.trans (hb2.mono HB6.out.size))
   have HS7 := Lib.hid (Nat.le_trans HS6.out hb2.size)
   have HY7 := Lib.hid hz2
   have HLK : Hid (∀ i, i < (hrs x.R).length → (hrs x.R).getD i 0 ∈ hrs x.R) := Lib.hid (fun i hi => by
    rw [List.getD_eq_getElem?_getD, List.getElem?_eq_getElem hi]
    exact List.getElem_mem hi)
   have HKL : Hid (∀ n, (keptZ b x.last ((hrs x.R).take n)).length ≤ 10) := Lib.hid (fun n => by
    have h1 : (keptZ b x.last ((hrs x.R).take n)).length ≤ ((hrs x.R).take n).length := List.length_filter_le _ _
    rw [List.length_take] at h1
    have := HLE.out
    omega)
   rw [HLN.out, HLN6.out] 
   clear hz2 hb2 HH2 HV6 HZ6 HB6 HS6
   have HX66 : Hid (hrs x6.R = hrs (stayR x b)) := Lib.hid (by rw [HX61.out])
   generalize hrs (stayR x b) = N at *
   generalize hrs x.R = L at *
   generalize x.last = la at *
   go_wp2_with fail
   go_loopw [46, 11, 12, 13, 14, 15, 16] (fun s46 s11 _ _ _ _ _ ws => ∃ n : Nat, s46 = .int .i64 n ∧ n ≤ L.length ∧ s11 = .int .i64 ((((keptZ b la (L.take n)).length : Nat) : Int)) ∧ Hid (Below W7.heap.size W7 ws)) (fun s46 _ _ _ _ _ _ _ => L.length - (intOf s46).toNat)
   case atStart => exact ⟨0, rfl, Nat.zero_le _, rfl, Lib.hid (Below.refl _ _)⟩
   case round =>
    obtain ⟨n, rfl, hn, rfl, HW⟩ := hrel
    obtain ⟨ws, hws⟩ := Below.name HW.out
    subst hws
    have hle := HLE.out
    by_cases hl2 : n < L.length
    ·have e1 : decide ((n : Int) < (L.length : Int)) = true := by simp; omega
     have i1 : 0 ≤ (n : Int) ∧ (n : Int) < (L.length : Int) := by omega
     obtain ⟨g, cap, ev, hgc⟩ : ∃ g cap, Value.slice z1 L.length zc1 = .slice (some ⟨g, 0, none⟩) L.length cap ∧ ws.cell? ⟨g, n, none⟩ = some (.int .i64 (L.getD n 0)) := by
      rcases (HZ7.out.keep HW.out).cells with ⟨_, e⟩ | ⟨g, cap, e, _, _, _, _, hc, _⟩
      ·rw [e] at hl2; simp at hl2
      ·exact ⟨g, cap, e, hc n hl2⟩
     injection ev with ev1 _ ev2
     subst ev1 ev2
     have hkin := HLK.out n hl2
     have hst := HST.out n hl2
     have hbh := HHN.out _ hkin
     have HR := Lib.hid (vroot_any _ a x6 (L.getD n 0) (by omega) ws (HV7.out.keep HW.out))
     by_cases c1 : b ≤ L.getD n 0
     ·have hgo : goesB b la (L.getD n 0) = false := by rw [go_of hst, decide_eq_true c1]; rfl
      have d1 : decide (L.getD n 0 ≥ b) = true := by simpa using c1
      obtain ⟨r, hr⟩ := HFY.out _ hkin hgo
      obtain ⟨hk1, hk2⟩ := kept_at hl2 hgo
      have HK1 := Lib.hid (kept_yes (l := L.take n) hgo)
      rw [← HRE.out] at hk1 hk2
      rw [hr] at HR
      have hkl := HKL.out n
      obtain ⟨g2, cap2, ev2, hgl2, hgc2⟩ : ∃ g cap, Value.slice z2 N.length zc2 = .slice (some ⟨g, 0, none⟩) N.length cap ∧ g < ws.heap.size ∧ ws.cell? ⟨g, (keptZ b la (L.take n)).length, none⟩ = some (.int .i64 (N.getD (keptZ b la (L.take n)).length 0)) := by
       rcases (HY7.out.keep HW.out).cells with ⟨_, e⟩ | ⟨g, cap, e, _, hgl, _, _, hc, _⟩
       ·rw [e] at hk1; simp at hk1
       ·exact ⟨g, cap, e, hgl, hc _ hk1⟩
      injection ev2 with ev21 _ ev22
      subst ev21 ev22
      rw [hk2] at hgc2
      clear hr hk2 hkin hst
      generalize hdh : L.getD n 0 = h at *
      generalize hdk : (keptZ b la (L.take n)).length = k at *
      have j1 : decide ((k : Int) ≥ (N.length : Int)) = false := by simp; omega
      have j0 : 0 ≤ (k : Int) ∧ (k : Int) < (N.length : Int) := by omega
      clear hbh
      go_wp2_with fail
      refine HR.out.mono ?_
      rintro e w8 ⟨rfl, hb8⟩
      have hgc3 := (hb8.cell (p := ⟨g2, k, none⟩) hgl2).trans hgc2
      have HB8 := Lib.hid (HW.out.trans (hb8.mono HW.out.size))
      clear hb8 HR
      go_wp2_with fail
      exact ⟨⟨n + 1, by go_num, by omega, by rw [takeZ L n hl2, hdh, HK1.out, List.length_append, hdk]; simp, HB8⟩, by simp [intOf]; omega⟩
     ·have d1 : decide (L.getD n 0 ≥ b) = false := by simpa using c1
      by_cases c2 : n = L.length - 1
      ·have hgo : goesB b la (L.getD n 0) = false := by rw [go_of hst, decide_eq_true c2, Bool.or_true]; rfl
       have d2 : ((n : Int) == (L.length : Int) - 1) = true := by simp; omega
       clear c2
       obtain ⟨r, hr⟩ := HFY.out _ hkin hgo
       obtain ⟨hk1, hk2⟩ := kept_at hl2 hgo
       have HK1 := Lib.hid (kept_yes (l := L.take n) hgo)
       rw [← HRE.out] at hk1 hk2
       rw [hr] at HR
       have hkl := HKL.out n
       obtain ⟨g2, cap2, ev2, hgl2, hgc2⟩ : ∃ g cap, Value.slice z2 N.length zc2 = .slice (some ⟨g, 0, none⟩) N.length cap ∧ g < ws.heap.size ∧ ws.cell? ⟨g, (keptZ b la (L.take n)).length, none⟩ = some (.int .i64 (N.getD (keptZ b la (L.take n)).length 0)) := by
        rcases (HY7.out.keep HW.out).cells with ⟨_, e⟩ | ⟨g, cap, e, _, hgl, _, _, hc, _⟩
        ·rw [e] at hk1; simp at hk1
        ·exact ⟨g, cap, e, hgl, hc _ hk1⟩
       injection ev2 with ev21 _ ev22
       subst ev21 ev22
       rw [hk2] at hgc2
       clear hr hk2 hkin hst
       generalize hdh : L.getD n 0 = h at *
       generalize hdk : (keptZ b la (L.take n)).length = k at *
       have j1 : decide ((k : Int) ≥ (N.length : Int)) = false := by simp; omega
       have j0 : 0 ≤ (k : Int) ∧ (k : Int) < (N.length : Int) := by omega
       clear hbh
       go_wp2_with fail
       refine HR.out.mono ?_
       rintro e w8 ⟨rfl, hb8⟩
       have hgc3 := (hb8.cell (p := ⟨g2, k, none⟩) hgl2).trans hgc2
       have HB8 := Lib.hid (HW.out.trans (hb8.mono HW.out.size))
       clear hb8 HR
       go_wp2_with fail
       exact ⟨⟨n + 1, by go_num, by omega, by rw [takeZ L n hl2, hdh, HK1.out, List.length_append, hdk]; simp, HB8⟩, by simp [intOf]; omega⟩
      ·have hgo : goesB b la (L.getD n 0) = true := by rw [go_of hst, decide_eq_false c1, decide_eq_false c2]; rfl
       have d2 : ((n : Int) == (L.length : Int) - 1) = false := by simp; omega
       clear c2
       have HK1 := Lib.hid (kept_no (l := L.take n) hgo)
       have hr := HFN.out _ hkin hgo
       rw [hr] at HR
       clear hr hkin hst
       generalize hdh : L.getD n 0 = h at *
       clear hbh
       go_wp2_with fail
       refine HR.out.mono ?_
       rintro e w8 ⟨rfl, hb8⟩
       have HB8 := Lib.hid (HW.out.trans (hb8.mono HW.out.size))
       clear hb8 HR
       go_wp2_with fail
       exact ⟨⟨n + 1, by go_num, by omega, by rw [takeZ L n hl2, hdh, HK1.out], HB8⟩, by simp [intOf]; omega⟩
    ·have e1 : decide ((n : Int) < (L.length : Int)) = false := by simp; omega
     have hnl : n = L.length := by omega
     have HBS := Lib.hid (HB7.out.trans (HW.out.mono HB7.out.size))
     have HKS := Lib.hid (HK.out.keep HBS.out)
     have HVS := Lib.hid (HV7.out.keep HW.out)
     have HSS := Lib.hid (Nat.le_trans HS7.out HW.out.size)
     have hNL : N.length ≤ L.length := by rw [HRE.out]; exact List.length_filter_le _ _
     have hsub : IntKind.i64.wrap ((L.length : Int) - (N.length : Int)) = ((L.length - N.length : Nat) : Int) := by rw [IntKind.wrap_i64]; omega
     have hwr : IntKind.i64.wrap (min (max b 1) 1048577 - 1) = min (max b 1) 1048577 - 1 := by rw [IntKind.wrap_i64]; omega
     have hil : IL ws (.slice none 0 0) [] := ⟨none, 0, rfl, by simp, by unfold maxLen; omega, fun h => absurd rfl h⟩
     have hxr : x6.R.length ≤ 10 := by rw [HX61.out]; exact HRL6.out
     have hxt := HX65.out
     have hxl := HX64.out
     have HC := Lib.hid (vcommit_any _ a x6 HX6.out (min (max b 1) 1048577 - 1) (by omega) _ [] (fun y hy => by cases hy) (by simp only [List.length_nil]; omega) (by omega) (by omega) _ HSS.out HKS.out hil HVS.out)
     have HX7 := Lib.hid (HX6.out.commit (min (max b 1) 1048577 - 1) [] (by simp only [List.length_nil]; omega))
     have HU7 := Lib.hid (HU6.out.commit (min (max b 1) 1048577 - 1) [])
     have HCM := Lib.hid (com_again x6 b (min (max b 1) 1048577 - 1) rfl (by rw [HX63.out]; omega))
     have hcl := commit_len x6 HX6.out (min (max b 1) 1048577 - 1) []
     rw [List.length_nil] at hcl
     have HX7T : Hid ((commitV x6 (min (max b 1) 1048577 - 1) []).1.T.length ≤ 20000) := Lib.hid (by omega)
     have HX7R : Hid ((commitV x6 (min (max b 1) 1048577 - 1) []).1.R.length ≤ 20) := Lib.hid (by omega)
     have HE7 : Hid (stayR (commitV x6 (min (max b 1) 1048577 - 1) []).1 b = (commitV x6 (min (max b 1) 1048577 - 1) []).1.R) := Lib.hid (stay_again _ b (fun k hk => by
      by_cases h1 : b < 1
      ·have h2 := (HU7.out.top k hk).1
       have h3 : ¬ k < b := by omega
       unfold goesB
       rw [decide_eq_false h3]
       rfl
      ·rw [HCM.out (by omega)] at hk ⊢
       show goesB b x6.last k = false
       rw [HX62.out]
       rw [show (x6, (([] : Bs), (120 : Int))).1 = x6 from rfl] at hk
       rw [HX66.out] at hk
       have h4 : k ∈ N := hk
       rw [HRE.out] at h4
       simpa using (List.mem_filter.1 h4).2))
     clear hcl hxr hxt hxl HX6 HU6 hil HV7 HB7 HS7
     subst hnl
     rw [List.take_length, ← HRE.out]
     obtain ⟨hh, hhe⟩ : ∃ hh, hh = min (max b 1) 1048577 - 1 := ⟨_, rfl⟩
     rw [← hhe] at HC HX7 HU7 HCM HX7T HX7R HE7
     have hwr2 : IntKind.i64.wrap (min (max b 1) 1048577 - 1) = hh := by rw [hwr, hhe]
     clear hwr hhe
     by_cases hb1 : b < 1
     ·have d3 : decide (b < 1) = true := by simpa using hb1
      clear HCM
      generalize commitV x6 hh [] = y at *
      obtain ⟨x7, r7, c7⟩ := y
      simp only at HX7 HU7 HX7T HX7R HE7
      clear hb1
      go_wp2_with fail
      refine HC.out.mono ?_
      rintro e w9 ⟨rfl, hV9, hm9⟩
      have hb9 := HVS.out.low hm9 HS2.out (Nat.le_trans HS2.out HSS.out)
      have HB9 := Lib.hid (HBS.out.trans hb9)
      have HK9 := Lib.hid (HK.out.keep HB9.out)
      have HP := Lib.hid (vprune_any _ a _ HX7.out b hb (by have := HX7T.out; omega) (by have := HX7R.out; omega) _ HK9.out hV9)
      have HS9 := Lib.hid (Nat.le_trans HSS.out hm9.size)
      have HV9 := Lib.hid hV9
      clear hV9 hm9 hb9 HC
      go_wp2_with fail
      refine HP.out.mono ?_
      rintro e w10 ⟨rfl, _, hm10⟩
      have hb10 := HV9.out.low hm10 HS2.out (Nat.le_trans HS2.out HS9.out)
      have HB10 := Lib.hid (HB9.out.trans hb10)
      clear hm10 hb10 HP
      rw [HE7.out, Nat.sub_self]
      go_wp2_with fail
      go_ret
      exact ⟨rfl, HB10.out⟩
     ·have d3 : decide (b < 1) = false := by simpa using hb1
      rw [HCM.out (by omega)] at HC HX7 HU7 HX7T HX7R HE7
      simp only at HX7 HU7 HX7T HX7R HE7
      clear hb1 HCM
      go_wp2_with fail
      refine HC.out.mono ?_
      rintro e w9 ⟨rfl, hV9, hm9⟩
      have hb9 := HVS.out.low hm9 HS2.out (Nat.le_trans HS2.out HSS.out)
      have HB9 := Lib.hid (HBS.out.trans hb9)
      have HK9 := Lib.hid (HK.out.keep HB9.out)
      have HP := Lib.hid (vprune_any _ a _ HX7.out b hb (by have := HX7T.out; omega) (by have := HX7R.out; omega) _ HK9.out hV9)
      have HS9 := Lib.hid (Nat.le_trans HSS.out hm9.size)
      have HV9 := Lib.hid hV9
      clear hV9 hm9 hb9 HC
      go_wp2_with fail
      refine HP.out.mono ?_
      rintro e w10 ⟨rfl, _, hm10⟩
      have hb10 := HV9.out.low hm10 HS2.out (Nat.le_trans HS2.out HS9.out)
      have HB10 := Lib.hid (HB9.out.trans hb10)
      clear hm10 hb10 HP
      rw [HE7.out, Nat.sub_self]
      go_wp2_with fail
      go_ret
      exact ⟨rfl, HB10.out⟩
end Go.Proofs.YtjppbomngnomhaaGreatDoor
namespace Go.Proofs.YtjppbomngnomhaaGreatDoor
open Go.ChangeShapes Go.WideShapes Go.ChangeAt Go.RowKit
theorem gK : Tryz.prog.globalNamed "pharos/sha.k" = some 0 := by kernel_rfl
theorem tK : (Tryz.prog.globals[0]?).map (·.type) = some 163 := by kernel_rfl
theorem laid_eq {H : Type} : (Rows.laid_pharos_sha_k : DataW H) = .agg (kList.map fun n => .lit (.int .u32 n)) := rfl
theorem c1K : Tryz.prog.cellsOf 117 = 1 := by kernel_rfl
theorem kt_of_laid {W : World} (h : laidMetH Tryz.prog [("pharos/sha.k", Rows.laid_pharos_sha_k)] W) : KT W := by
 rw [MakeChecks.laidMetH_plain _ _ _ (by kernel_rfl)] at h
 obtain ⟨ps, ⟨g0, t0, cs0, f0, p0, q0, hg0, ht0, hv0, hd0, hrest⟩, _, _⟩ := h
 obtain rfl := Option.some.inj (gK.symm.trans hg0)
 obtain rfl := Option.some.inj (tK.symm.trans ht0)
 rw [laid_eq] at hd0
 obtain ⟨xs, m1, _, hx1, hl, hlen, hel⟩ := DataW.trod_array Tryz.underlying163 hd0
 rw [c1K] at hel
 simp only [Prod.mk.injEq, DataW.agg.injEq] at hx1
 have hcell : ∀ i, i < 64 → W.cell? ⟨0, i, none⟩ = some (.int .u32 (kc i)) := by
  intro i hi
  have h3 := hel i (by omega)
  have hxi : i < xs.length := by omega
  rw [List.getElem?_eq_getElem hxi] at h3
  obtain ⟨n, e1, e2, _⟩ := DataW.trod_int Tryz.underlying117 h3
  have h4 := congrArg (fun l => l[i]?) hx1.1
  simp only [List.getElem?_map, List.getElem?_eq_getElem hxi, Option.map_some] at h4
  rw [e2, List.getElem?_eq_getElem (show i < kList.length from hi)] at h4
  simp at h4
  have hv := World.var?_cell hg0 hv0 i
  rw [Nat.mul_one] at e1
  have h5 := congrArg (fun l => l[0]?) e1
  simp at h5
  have hlt : i < kList.length := hi
  rw [hv, h5, show kc i = n from by rw [← h4]; simp [kc, List.getD, hlt]]
 refine ⟨hcell, ?_⟩
 rcases Nat.lt_or_ge 0 W.heap.size with hlt | hge
 ·exact hlt
 ·have := hcell 0 (by omega)
  simp [World.cell?, Array.getElem?_eq_none hge] at this
theorem laid_door (os : Os) (args : Array Value) : laidMetH Tryz.prog [("pharos/sha.k", Rows.laid_pharos_sha_k)] ((World.doorLaid Tryz.prog 14 os).forCall (fun _ _ => 0) ⟨#[], args, []⟩).memory :=
 laidMetH_of_parts3 (fuel := 8) (laidMet_of_run' 8 (by kernel_rfl) (by kernel_rfl)) (by kernel_rfl) (by kernel_rfl)
end Go.Proofs.YtjppbomngnomhaaGreatDoor
