/- JOpen, TOpenB, TAlike, ChgV, TWorks. -/
import Derived.Test.YthgjdaomcpinaaaGreatDoorMn12
import Derived.Test.YthgjdaomcpinaaaGreatDoorMn24
import Derived.Test.YthgjdaomcpinaaaGreatDoorMn26
import Derived.Test.YthgjdaomcpinaaaGreatDoorMn27
import Derived.Test.YthgjdaomcpinaaaGreatDoorMn29
set_option linter.unnecessarySimpa false

/- Layer 32: a journal is opened on a disk: the program's walk. -/
set_option linter.unusedSimpArgs false
set_option linter.unusedVariables false
namespace Go.Proofs.YthgjdaomcpinaaaGreatDoor
open Go.RowKit Pl

/-- What Open answers. -/
def jopened (w w' : World) (av : List Nat) (p : Nat) (B : List (List Bs)) (r : Dk × Int) (e : Ending) : Prop :=
  Mod [p] w w' ∧ (r.2 = 0 → ∃ j v, e = .returned (.tuple #[.pointer (some ⟨j, 0, none⟩), v, .int .i64 (0)]) ∧ w.heap.size ≤ j ∧ Blk w' j #[.pointer (some ⟨p, 0, none⟩), .bool false] ∧ DkV w' (j :: av) p r.1 ∧ LS w' w.heap.size v B) ∧
    (r.2 ≠ 0 → e = .returned (.tuple #[.pointer none, .slice none 0 0, .int .i64 (r.2)]) ∧ DkV w' av p r.1)
theorem jopened.no {w w' : World} {av : List Nat} {p : Nat} {B : List (List Bs)} {r : Dk × Int} (hm : Mod [p] w w') (h : r.2 ≠ 0) (hD : DkV w' av p r.1) : jopened w w' av p B r (.returned (.tuple #[.pointer none, .slice none 0 0, .int .i64 (r.2)])) :=
  ⟨hm, fun h0 => absurd h0 h, fun _ => ⟨rfl, hD⟩⟩
theorem jopened.yes {w w1 : World} {av : List Nat} {p : Nat} {B : List (List Bs)} {r : Dk × Int} {v : Value} (hm : Mod [p] w w1) (h : r.2 = 0) (hD : DkV w1 av p r.1) (hS : LS w1 w.heap.size v B) :
    jopened w (w1.alloc (.cells #[.pointer (some ⟨p, 0, none⟩), .bool false] 166)) av p B r (.returned (.tuple #[.pointer (some ⟨w1.heap.size, 0, none⟩), v, .int .i64 (0)])) :=
  ⟨hm.trans (Mod.of_below (Below.allocS (Below.refl _ _) _)), fun _ => ⟨w1.heap.size, v, rfl, hm.size, Blk.new _ _ _, (hD.more (Nat.le_refl _)).keep (Below.allocS (Below.refl _ _) _), hS.keep (Below.allocS (Below.refl _ _) _)⟩, fun h0 => absurd h h0⟩
set_option maxRecDepth 100000 in
set_option maxHeartbeats 4000000 in
theorem jopen_any (av : List Nat) (p : Nat) (d : Dk) (B : List (List Bs)) (tail : Bs) (hs : d.s = recsP B ++ tail) (hB : ∀ b ∈ B, mayR b = true) (ht : nextP tail = none) (hl : d.s.length ≤ 1048576) (hf : -9223372036854775807 ≤ d.fuse ∧ d.fuse ≤ 9223372036854775807) (w : World) (hk : KT w) (h : DkV w av p d) :
    Calls Tryz.prog 68 #[.pointer (some ⟨p, 0, none⟩)] w fun e w' => jopened w w' av p B (openD d (recsP B).length) e := by
  have q1 := dread_any av p d w h
  have q2 := jscan_any B tail hB ht (by rw [← hs]; exact hl) w hk
  rw [← hs] at q2
  have hnl : (recsP B).length ≤ d.s.length := by rw [hs, List.length_append]; omega
  have hbf := burnt_fuse d
  obtain ⟨_, _, hx2⟩ := h.row
  have hpl := hx2.lt
  clear hx2
  have H := Lib.hid h
  by_cases hc : (recsP B).length < d.s.length
  · have HO : Hid (openD d (recsP B).length = if (cutD d (recsP B).length).2 = 0 then syncD (cutD d (recsP B).length).1 else cutD d (recsP B).length) := Lib.hid (if_pos hc)
    have q3 := fun W (h : DkV W av p d) => dcut_any av p d (recsP B).length hnl (by omega) hl W h
    have hcf : -9223372036854775808 ≤ (cutD d (recsP B).length).1.fuse ∧ (cutD d (recsP B).length).1.fuse ≤ 9223372036854775807 := by
      unfold cutD
      split
      · simp only; omega
      · split
        · simp only; rcases hbf with e | ⟨e, _⟩ <;> omega
        · rcases hbf with e | ⟨e, _⟩ <;> omega
    have q4 := fun W (h : DkV W av p (cutD d (recsP B).length).1) => dsync_any av p (cutD d (recsP B).length).1 hcf W h
    generalize openD d (recsP B).length = R at *
    generalize (recsP B).length = n at *
    generalize cutD d n = x at *
    obtain ⟨d1, c1⟩ := x
    simp only at q3 q4 HO
    generalize syncD d1 = y at *
    obtain ⟨d2, c2⟩ := y
    simp only at q4 HO
    have i1 : decide ((n : Int) < (d.s.length : Int)) = true := by simp; omega
    have i2 : decide (n < d.s.length) = true := by simpa using hc
    clear h hs hB ht hbf hcf hc hnl
    go_enter Tryz.func68, Tryz.ntmps68
    go_wp2_with fail
    refine q1.mono ?_
    rintro e w1 ⟨rfl, rfl⟩
    clear q1
    go_wp2_with fail
    refine q2.mono ?_
    rintro e w2 ⟨v, rfl, hS, hb⟩
    obtain ⟨sa, sc, rfl⟩ := hS.form
    have H2 := H.out.keep hb
    have m2 := Mod.of_below (l := [p]) hb
    clear q2
    go_wp2_with fail
    refine (q3 _ H2).mono ?_
    rintro e w3 ⟨rfl, H3, m3⟩
    have hS3 := hS.modl m3 (by simp; omega)
    have mm3 := m2.trans m3
    clear q3 H2 hS
    by_cases h1 : c1 = 0
    · subst h1
      go_wp2_with fail
      refine (q4 _ H3).mono ?_
      rintro e w4 ⟨rfl, H4, m4⟩
      have hS4 := hS3.modl m4 (by simp; omega)
      have mm4 := mm3.trans m4
      clear q4 H3 hS3
      by_cases h2 : c2 = 0
      · subst h2
        go_wp2_with fail
        go_ret3
        rw [HO.out, if_pos (by trivial)]
        exact jopened.yes mm4 rfl H4 hS4
      · have g1 : (c2 != 0) = true := by simpa using h2
        go_wp2_with fail
        go_ret3
        rw [HO.out, if_pos (by trivial)]
        exact jopened.no (r := (d2, c2)) mm4 h2 H4
    · have g1 : (c1 != 0) = true := by simpa using h1
      go_wp2_with fail
      go_ret3
      rw [HO.out, if_neg h1]
      exact jopened.no (r := (d1, c1)) mm3 h1 H3
  · have HO : Hid (openD d (recsP B).length = syncD d) := Lib.hid (if_neg hc)
    have q4 := fun W (h : DkV W av p d) => dsync_any av p d (by omega) W h
    generalize openD d (recsP B).length = R at *
    generalize syncD d = y at *
    obtain ⟨d2, c2⟩ := y
    simp only at q4 HO
    generalize (recsP B).length = n at *
    have i1 : decide ((n : Int) < (d.s.length : Int)) = false := by simp; omega
    have i2 : decide (n < d.s.length) = false := by simpa using hc
    clear h hs hB ht hbf hnl
    go_enter Tryz.func68, Tryz.ntmps68
    go_wp2_with fail
    refine q1.mono ?_
    rintro e w1 ⟨rfl, rfl⟩
    clear q1
    go_wp2_with fail
    refine q2.mono ?_
    rintro e w2 ⟨v, rfl, hS, hb⟩
    obtain ⟨sa, sc, rfl⟩ := hS.form
    have H2 := H.out.keep hb
    have m2 := Mod.of_below (l := [p]) hb
    clear q2
    go_wp2_with fail
    refine (q4 _ H2).mono ?_
    rintro e w4 ⟨rfl, H4, m4⟩
    have hS4 := hS.modl m4 (by simp; omega)
    have mm4 := m2.trans m4
    clear q4 H2 hS
    by_cases h2 : c2 = 0
    · subst h2
      go_wp2_with fail
      go_ret3
      rw [HO.out]
      exact jopened.yes mm4 rfl H4 hS4
    · have g1 : (c2 != 0) = true := by simpa using h2
      go_wp2_with fail
      go_ret3
      rw [HO.out]
      exact jopened.no (r := (d2, c2)) mm4 h2 H4
end Go.Proofs.YthgjdaomcpinaaaGreatDoor

/- trust.Open on a disk with a journal. The program's walk. -/
set_option linter.unusedSimpArgs false
set_option linter.unusedVariables false
namespace Go.Proofs.YthgjdaomcpinaaaGreatDoor
open Go.RowKit Go.WideMaps Go.Maps Go.Sort Go.Shelf Pl

theorem KT.modl {w w' : World} {l : List Nat} (h : KT w) (hm : Mod l w w') (hn : 1 ∉ l) : KT w' :=
  ⟨fun i hi => (World.cell?_of_block (a := ⟨1, i, none⟩) (hm.block _ h.lt hn)).trans (h.cell i hi), Nat.lt_of_lt_of_le h.lt hm.size⟩
theorem DkV.notK {w : World} {av : List Nat} {p : Nat} {d : Dk} (h : DkV w av p d) (hk : KT w) : p ≠ 1 := by
  intro e
  subst e
  obtain ⟨v, hv, B⟩ := h.row
  have h1 := hk.cell 0 (by omega)
  rw [B.cell 0] at h1
  obtain ⟨a, c, rfl⟩ := hv.form
  simp at h1
/-- What Open answers. -/
def topened (w w' : World) (av : List Nat) (p : Nat) (span : Int) (T : List (Int × Tr)) (r : Dk × Int) (e : Ending) : Prop :=
  Mod [p] w w' ∧ (r.2 = 0 → ∃ j m q, e = .returned (.tuple #[.pointer (some ⟨q, 0, none⟩), .int .i64 (0)]) ∧ w.heap.size ≤ j ∧ j < m ∧ m < q ∧ Blk w' j #[.pointer (some ⟨p, 0, none⟩), .bool false] ∧ DkV w' (q :: m :: j :: av) p r.1 ∧ TrM w' (q + 1) m T ∧ Blk w' q #[.map (some m), .int .i64 (span), .pointer (some ⟨j, 0, none⟩)]) ∧
    (r.2 ≠ 0 → e = .returned (.tuple #[.pointer none, .int .i64 (r.2)]) ∧ DkV w' av p r.1)
theorem flat_drop (B : List (List Bs)) (i : Nat) (hi : i < B.length) : (B.drop i).flatten = B.getD i [] ++ (B.drop (i + 1)).flatten := by
  rw [List.drop_eq_getElem_cons hi, List.flatten_cons, List.getD_eq_getElem?_getD, List.getElem?_eq_getElem hi]
  rfl
theorem drop_at (b : List Bs) (i : Nat) (hi : i < b.length) : b.drop i = b.getD i [] :: b.drop (i + 1) := by
  rw [List.drop_eq_getElem_cons hi, List.getD_eq_getElem?_getD, List.getElem?_eq_getElem hi]
  rfl
set_option maxRecDepth 100000 in
set_option maxHeartbeats 8000000 in
theorem topen_any (av : List Nat) (p : Nat) (d : Dk) (span : Int) (h0 : 1 ≤ span) (h1 : span ≤ 1099511627776) (B : List (List Bs)) (T : List (Int × Tr)) (hsc : ∃ tail, d.s = recsP B ++ tail ∧ nextP tail = none) (hB : ∀ b ∈ B, mayR b = true) (hl : d.s.length ≤ 1048576) (hc : Chgs [] B.flatten T) (hn : B.flatten.length ≤ 100000) (hbl : B.length ≤ 100000) (hf : -9223372036854775807 ≤ d.fuse ∧ d.fuse ≤ 9223372036854775807) (w : World) (hk : KT w) (h : DkV w av p d) :
    Calls Tryz.prog 18 #[.pointer (some ⟨p, 0, none⟩), .int .i64 (span)] w fun e w' => topened w w' av p span T (openD d (recsP B).length) e := by
  obtain ⟨tail, hs, ht⟩ := hsc
  have hmm := @run_makeMap Tryz.prog
  have q1 := jopen_any av p d B tail hs hB ht hl hf w hk h
  have d0 : decide (span < 1) = false := by simp; omega
  have d1 : decide (1099511627776 < span) = false := by simp; omega
  have hpk := h.notK hk
  obtain ⟨_, _, hx2⟩ := h.row
  have hpl := hx2.lt
  have HC := Lib.hid hc
  have HK := Lib.hid hk
  generalize openD d (recsP B).length = r at *
  obtain ⟨d2, c⟩ := r
  clear hs ht hB hl hf h hx2 hc hk
  go_enter Tryz.func18, Tryz.ntmps18
  go_wp2_with fail
  refine q1.mono ?_
  rintro e w1 ⟨hm, hy, hno⟩
  simp only at hy hno
  by_cases hc0 : c = 0
  · subst hc0
    obtain ⟨j, v, rfl, hj, hBj, hD, hS⟩ := hy rfl
    obtain ⟨sa, sc, rfl⟩ := hS.form
    have HK1 := Lib.hid (HK.out.modl hm (by intro hx; rw [List.mem_singleton] at hx; exact hpk hx.symm))
    have hown : (w1.alloc (.map #[] 0)).ownsMap (H := Value) Tryz.prog 3 hT w1.heap.size 0 (.map []) := World.ownsMap_made _ _ _ _
    have hbm : Below w1.heap.size w1 (w1.alloc (.map #[] 0)) := (Below.refl _ _).alloc (Nat.le_refl _) _
    have hbm2 := Below.allocS hbm (.cells #[.map (some w1.heap.size), .int .i64 (span), .pointer (some ⟨j, 0, none⟩)] 122)
    have hjl := hBj.lt
    have hown2 := hown.alloc (.cells #[.map (some w1.heap.size), .int .i64 (span), .pointer (some ⟨j, 0, none⟩)] 122)
    have hq : Blk ((w1.alloc (.map #[] 0)).alloc (.cells #[.map (some w1.heap.size), .int .i64 (span), .pointer (some ⟨j, 0, none⟩)] 122)) (w1.heap.size + 1) #[.map (some w1.heap.size), .int .i64 (span), .pointer (some ⟨j, 0, none⟩)] := Blk.new' (by simp)
    obtain ⟨w2, hw2⟩ : ∃ w2, w2 = (w1.alloc (.map #[] 0)).alloc (.cells #[.map (some w1.heap.size), .int .i64 (span), .pointer (some ⟨j, 0, none⟩)] 122) := ⟨_, rfl⟩
    have hsz2 : w2.heap.size = w1.heap.size + 2 := by rw [hw2]; simp
    obtain ⟨m, hmx⟩ : ∃ m, m = w1.heap.size := ⟨_, rfl⟩
    rw [← hw2] at hown2 hq hbm2
    rw [← hmx] at hown2 hq hsz2 hjl
    have HQ := Lib.hid hq
    have hTM : TrM w2 (m + 2) m [] := TrM.nil hown2
    have HTM := Lib.hid hTM
    have HHW := Lib.hid hw2
    have HHM := Lib.hid hmx
    have hmw1 : w1.heap.size ≤ m := by omega
    have hms := hm.size
    have hs2m : m + 2 ≤ w2.heap.size := by omega
    have HSZ := Lib.hid hsz2
    clear hmx hsz2
    clear q1 hown hown2 hq hTM hw2 hbm hno hy
    go_wp2_with fail
    rw [← HHW.out, ← HHM.out]
    go_loopw [36] (fun s36 wr => ∃ (i : Nat) (Ti : List (Int × Tr)), i ≤ B.length ∧ s36 = .int .i64 (i) ∧ Hid (TrM wr (m + 2) m Ti) ∧ Hid (Chgs Ti (B.drop i).flatten T) ∧ Hid (Ti.length + (B.drop i).flatten.length ≤ 100000) ∧ Hid (Blk wr (m + 1) #[.map (some m), .int .i64 (span), .pointer (some ⟨j, 0, none⟩)]) ∧ Mod [m] w2 wr ∧ Below w1.heap.size w1 wr) (fun s36 _ => B.length - (intOf s36).toNat)
    case atStart => exact ⟨0, [], by omega, rfl, HTM, HC, Lib.hid (by simpa using hn), HQ, Mod.refl _ _, hbm2⟩
    case round =>
      obtain ⟨i, Ti, hi, rfl, HTr, HCr, HLr, HQr, mr, hbr⟩ := hrel
      have hsr := mr.size
      by_cases hlt : i < B.length
      · have hbd : 0 ≤ (i : Int) ∧ (i : Int) < (B.length : Int) := by omega
        obtain ⟨g, u, e1, hg, c0, hu⟩ := hS.at i hlt
        subst e1
        have c1 := (hbr.cell (p := ⟨g, i, none⟩) hg).trans c0
        clear c0
        have HFD := Lib.hid (flat_drop B i hlt)
        obtain ⟨R, hR⟩ : ∃ R, R = (B.drop (i + 1)).flatten := ⟨_, rfl⟩
        have HR := Lib.hid hR
        rw [← hR] at HFD
        have HCb := Lib.hid (show Chgs Ti (B.getD i [] ++ R) T from by rw [← HFD.out]; exact HCr.out)
        have HLb := Lib.hid (show Ti.length + (B.getD i [] ++ R).length ≤ 100000 from by rw [← HFD.out]; exact HLr.out)
        generalize B.getD i [] = b at *
        obtain ⟨ua, uc, rfl⟩ := hu.form
        have HU := Lib.hid hu.ss
        have hul := hu.ss.small
        clear hR HCr HLr HFD hu
        go_wp2_with fail
        go_loopw [42] (fun s42 wq => ∃ (k : Nat) (Tk : List (Int × Tr)), k ≤ b.length ∧ s42 = .int .i64 (k) ∧ Hid (TrM wq (m + 2) m Tk) ∧ Hid (Chgs Tk (b.drop k ++ R) T) ∧ Hid (Tk.length + (b.drop k ++ R).length ≤ 100000) ∧ Hid (Blk wq (m + 1) #[.map (some m), .int .i64 (span), .pointer (some ⟨j, 0, none⟩)]) ∧ Mod [m] w2 wq ∧ Below w1.heap.size w1 wq ∧ Mod [m] wr wq) (fun s42 _ => b.length - (intOf s42).toNat)
        case atStart => exact ⟨0, Ti, by omega, rfl, HTr, HCb, HLb, HQr, mr, hbr, Mod.refl _ _⟩
        case round =>
          clear HTr HCb HLb HQr
          obtain ⟨k, Tk, hk, rfl, HTk, HCk, HLk, HQk, mk, hbk, mrk⟩ := hrel
          obtain ⟨wq, hnm⟩ := Below.name hbk
          subst hnm
          have hsk := mk.size
          by_cases hlk : k < b.length
          · have hbd2 : 0 ≤ (k : Int) ∧ (k : Int) < (b.length : Int) := by omega
            obtain ⟨g2, off2, e2, hg2, c2⟩ := (HU.out.keep hbk).at' k hlk
            subst e2
            have hCk := HCk.out
            have hLk := HLk.out
            rw [drop_at b k hlk] at hCk hLk
            rw [List.cons_append, List.length_cons] at hLk
            obtain ⟨T1, hg, hCn⟩ := Chgs.head (show Chgs Tk (b.getD k [] :: (b.drop (k + 1) ++ R)) T from hCk)
            have hT1 := hg.len
            have HCn := Lib.hid hCn
            have HLn := Lib.hid (show T1.length + (b.drop (k + 1) ++ R).length ≤ 100000 from by omega)
            have hkt : KT wq := HK1.out.keep hbk
            generalize b.getD k [] = s at *
            have qc : Calls Tryz.prog 69 #[.pointer (some ⟨m + 1, 0, none⟩), .string ⟨List.toArray (s)⟩] wq fun e w' => e = .returned (.bool true) ∧ TrM w' (m + 2) m T1 ∧ Blk w' (m + 1) #[.map (some m), .int .i64 (span), .pointer (some ⟨j, 0, none⟩)] ∧ Mod [m] wq w' := by
              cases hg with
              | come t hf hh => exact tchange_come (m + 2) (m + 1) m span (.pointer (some ⟨j, 0, none⟩)) Tk t (by omega) hf (by omega) wq hkt HTk.out (by omega) (by omega) HQk.out
              | goes x hx hin => exact tchange_goes (m + 2) (m + 1) m span (.pointer (some ⟨j, 0, none⟩)) Tk x (by omega) hx hin wq HTk.out (by omega) HQk.out
            clear hCk hLk hCn hg hT1 HCk HLk hkt
            go_wp2_with fail
            refine qc.mono ?_
            rintro e w5 ⟨rfl, hM5, hB5, m5⟩
            clear qc
            go_wp2_with fail
            exact ⟨⟨k + 1, T1, by omega, by go_num, Lib.hid hM5, HCn, HLn, Lib.hid hB5, mk.trans m5, Below.mod hbk m5 (by omega) (by simp; omega), mrk.trans m5⟩, by simp [intOf]; omega⟩
          · have hkl : k = b.length := by omega
            subst hkl
            have hCk := HCk.out
            have hLk := HLk.out
            rw [List.drop_length, List.nil_append] at hCk hLk
            rw [HR.out] at hCk hLk
            have HCn := Lib.hid hCk
            have HLn := Lib.hid hLk
            clear hCk hLk HCk HLk
            go_wp2_with fail
            exact ⟨⟨i + 1, Tk, by omega, by go_num, HTk, HCn, HLn, HQk, mk, hbk⟩, by simp [intOf]; omega⟩
      · have hil : i = B.length := by omega
        subst hil
        have hC0 := HCr.out
        rw [List.drop_length] at hC0
        obtain rfl := hC0.none
        have hBj2 := hBj.keep hbr
        have hD2 := ((hD.more (x := m) (by have := HHM.out; omega)).more (x := m + 1) (by have := HHM.out; omega)).keep hbr
        have hmt := hm.trans (Mod.of_below (l := [p]) hbr)
        clear HC HCr HTM HQ
        go_wp2_with fail
        all_goals (go_ret2; exact ⟨hmt, fun _ => ⟨j, m, m + 1, rfl, hj, by omega, by omega, hBj2, hD2, HTr.out, HQr.out⟩, fun h => absurd rfl h⟩)
  · obtain ⟨rfl, hD⟩ := hno hc0
    have g1 : (c != 0) = true := by simpa using hc0
    clear q1 hy hno
    go_wp2_with fail
    all_goals (go_ret2; exact ⟨hm, fun h => absurd h hc0, fun _ => ⟨rfl, hD⟩⟩)
end Go.Proofs.YthgjdaomcpinaaaGreatDoor

/- Whether all is the same: the law's walk of alike. -/
set_option linter.unusedSimpArgs false
set_option linter.unusedVariables false
namespace Go.Proofs.YthgjdaomcpinaaaGreatDoor
open Go.RowKit Go.WideMaps Go.Maps Go.Sort Go.Shelf Pl

theorem sameTr_self (t : Tr) : sameTr t t = true := by simp [sameTr, sameHd, sameL]
theorem row_loadVarAt {P : Program} {T : TypeId} {n : Nat} (hT : RowT P T n) (w : World) {b off : Nat} {vs : List Value} (hl : vs.length = n) (hR : w.rangeAt b off vs) : (loadVar T ⟨b, off, none⟩).run P w = .ok (.agg vs.toArray) w := by
  obtain ⟨⟨d, h1, h2⟩, h3⟩ := hT
  exact run_loadVar_mid w b off T vs d hR h1 h2 (by rw [hl]; exact h3)
theorem exec_rowAt {P : Program} {T : TypeId} {n : Nat} (hT : RowT P T n) {o : Oper} {a : Act} {w : World} (x : Operand) (ho : o.op = .load T x) {b off : Nat} (hx : a.eval x = .pointer (some ⟨b, off, none⟩)) {vs : List Value} (hl : vs.length = n) (hR : w.rangeAt b off vs) : (execOp a.eval o).run P w = .ok (.value (.agg vs.toArray)) w := by
  unfold execOp
  simp only [ho, hx, Instr.loadAt, Instr.sureAddr, Sem.run_bind, Sem.run_pure, Result.andThen_ok, row_loadVarAt hT w hl hR]
/-- What is said: true, if they are the same. -/
def alikeP (l m : List Tr) (e : Ending) : Prop := ∃ r : Bool, e = .returned (.bool r) ∧ (l = m → r = true)
set_option maxRecDepth 100000 in
set_option maxHeartbeats 4000000 in
theorem talike_any (u v : Value) (l m : List Tr) (w : World) (hu : TL w u l) (hv : TL w v m) :
    Calls Tryz.prog 27 #[u, v] w fun e w' => alikeP l m e ∧ Below w.heap.size w w' := by
  obtain ⟨a, c, rfl⟩ := hu.form
  obtain ⟨b, d, rfl⟩ := hv.form
  have hls := hu.small
  have HU := Lib.hid hu
  have HV := Lib.hid hv
  clear hu hv
  by_cases hl : l.length = m.length
  · have hl1 : ((l.length : Int) == (m.length : Int)) = true := by simp; omega
    have hl2 : ((l.length : Int) != (m.length : Int)) = false := by simp; omega
    have HL := Lib.hid hl
    clear hl
    go_enter Tryz.func27, Tryz.ntmps27
    go_wp2_with fail
    go_loopw [13] (fun s13 wr => ∃ (i : Nat), i ≤ l.length ∧ s13 = .int .i64 i ∧ Below w.heap.size w wr) (fun s13 _ => l.length - (intOf s13).toNat)
    case atStart => exact ⟨0, by omega, rfl, Below.refl _ _⟩
    case round =>
      obtain ⟨i, hi, rfl, hb⟩ := hrel
      by_cases hlt : i < l.length
      · have hlt' : (i : Int) < (l.length : Int) := by omega
        have hlm : i < m.length := by rw [← HL.out]; exact hlt
        have hlm' : (i : Int) < (m.length : Int) := by omega
        obtain ⟨t, ht⟩ : ∃ t, l[i]? = some t := ⟨l[i], List.getElem?_eq_getElem hlt⟩
        obtain ⟨r, hr⟩ : ∃ r, m[i]? = some r := ⟨m[i], List.getElem?_eq_getElem hlm⟩
        have HN : Hid (sameTr t r = false → l ≠ m) := Lib.hid (fun h e => by
          rw [e, hr] at ht
          injection ht with ht
          rw [ht, sameTr_self] at h
          cases h)
        obtain ⟨g, off, sk, ms, rfl, hg, hR, h1, h2, p1, p2⟩ := HU.out.at i t ht
        obtain ⟨g2, off2, sk2, ms2, rfl, hg2, hR2, h3, h4, p3, p4⟩ := HV.out.at i r hr
        have q1 := fun W (hb : Below w.heap.size w W) => sametr_any (.agg (tcs t sk ms).toArray) (.agg (tcs r sk2 ms2).toArray) t r W ⟨sk, ms, rfl, h1.keep hb, h2.keep hb⟩ ⟨sk2, ms2, rfl, h3.keep hb, h4.keep hb⟩
        have b1 : 0 ≤ (i : Int) ∧ (i : Int) < (l.length : Int) := by omega
        have b2 : 0 ≤ (i : Int) ∧ (i : Int) < (m.length : Int) := by omega
        have hmr := hb.size
        generalize sameTr t r = st at *
        clear ht hr
        go_wp2_with fail
        refine wp_held rfl (by kernel_rfl) ?_
        (refine wpQ_pure (by rfl) ?_ ?_ ?_; rotate_left; focus (intro w; go_simp; try with_reducible rfl))
        try simp only [Act.put, List.setIfInBounds_toArray, List.set_cons_zero, List.set_cons_succ]
        (refine wpQ_pure (by rfl) ?_ ?_ ?_; rotate_left; focus (intro w; go_simp; try with_reducible rfl))
        try simp only [Act.put, List.setIfInBounds_toArray, List.set_cons_zero, List.set_cons_succ]
        refine wpQ_pure (by rfl) (.pointer (some ⟨g, off + i * 13, none⟩)) (fun w => (by go_simp; try rfl)) ?_
        try simp only [Act.put, List.setIfInBounds_toArray, List.set_cons_zero, List.set_cons_succ]
        refine wpQ_load (by rfl) (.agg (tcs t sk ms).toArray) (fun w' hb2 => exec_rowAt row_trust (.tmp 18) rfl rfl rfl (rangeAt_keep hR hg (hb.trans (hb2.mono hmr)))) ?_
        try simp only [Act.put, List.setIfInBounds_toArray, List.set_cons_zero, List.set_cons_succ]
        (refine wpQ_pure (by rfl) ?_ ?_ ?_; rotate_left; focus (intro w; go_simp; try with_reducible rfl))
        try simp only [Act.put, List.setIfInBounds_toArray, List.set_cons_zero, List.set_cons_succ]
        (refine wpQ_pure (by rfl) ?_ ?_ ?_; rotate_left; focus (intro w; go_simp; try with_reducible rfl))
        try simp only [Act.put, List.setIfInBounds_toArray, List.set_cons_zero, List.set_cons_succ]
        refine wpQ_pure (by rfl) (.pointer (some ⟨g2, off2 + i * 13, none⟩)) (fun w => (by go_simp; try rfl)) ?_
        try simp only [Act.put, List.setIfInBounds_toArray, List.set_cons_zero, List.set_cons_succ]
        refine wpQ_load (by rfl) (.agg (tcs r sk2 ms2).toArray) (fun w' hb2 => exec_rowAt row_trust (.tmp 22) rfl rfl rfl (rangeAt_keep hR2 hg2 (hb.trans (hb2.mono hmr)))) ?_
        try simp only [Act.put, List.setIfInBounds_toArray, List.set_cons_zero, List.set_cons_succ]
        refine wpQ_call (by rfl) _ _ (.bool st) (fun w' hb2 => (q1 w' (hb.trans (hb2.mono hmr))).mono fun _ _ ⟨he, hb3⟩ => ⟨he, hb2.trans (hb3.mono hb2.size)⟩) (by intro w; go_simp; try rfl) ?_
        try simp only [Act.put, List.setIfInBounds_toArray, List.set_cons_zero, List.set_cons_succ]
        (refine wpQ_pure (by rfl) ?_ ?_ ?_; rotate_left; focus (intro w; go_simp; try with_reducible rfl))
        try simp only [Act.put, List.setIfInBounds_toArray, List.set_cons_zero, List.set_cons_succ]
        intro w9 hS
        have hb9 := hb.trans (hS.mono hmr)
        cases st
        · go_wp2_with fail
          go_ret
          exact ⟨⟨false, rfl, fun h => absurd h (by first | exact HN.out rfl | exact HN.out trivial | exact HN.out)⟩, hb9⟩
        · go_wp2_with fail
          exact ⟨⟨i + 1, by omega, by go_num, hb9⟩, by simp [intOf]; omega⟩
      · have hil : i = l.length := by omega
        subst hil
        go_wp2_with fail
        go_ret
        exact ⟨⟨true, rfl, fun _ => rfl⟩, hb⟩
  · have hl1 : ((l.length : Int) == (m.length : Int)) = false := by simp; omega
    have hl2 : ((l.length : Int) != (m.length : Int)) = true := by simp; omega
    have HN : Hid (l ≠ m) := Lib.hid (fun e => hl (by rw [e]))
    clear hl
    go_enter Tryz.func27, Tryz.ntmps27
    go_wp2_with fail
    go_ret
    exact ⟨⟨false, rfl, fun h => absurd h HN.out⟩, Below.refl _ _⟩
end Go.Proofs.YthgjdaomcpinaaaGreatDoor

/- A list of changes, to be read; such an argument. -/
set_option linter.unusedVariables false
set_option linter.unusedSimpArgs false
set_option linter.unnecessarySimpa false
namespace Go.Proofs.YthgjdaomcpinaaaGreatDoor
open Go.ChangeShapes Go.WideShapes Go.ChangeAt Go.RowKit Pl

structure ChgP where
  come : List (Int × Int)
  go : List Int
theorem row_chg : RowT Tryz.prog 53 2 := RowT.mk' Tryz.underlying53 rfl (by kernel_rfl)
def InB (l : List Int) : Prop := ∀ k ∈ l, -9223372036854775808 ≤ k ∧ k ≤ 9223372036854775807
def CSrc (w : World) (g o : Nat) (l : List ChgP) : Prop := ∀ i x, l[i]? = some x → ∃ vc vg, w.rangeAt g (o + i * 2) [vc, vg] ∧ PS w vc x.come ∧ IS w vg x.go ∧ InB x.go
def CS (w : World) (v : Value) (l : List ChgP) : Prop :=
  ∃ a cap, v = .slice a l.length cap ∧ l.length ≤ cap ∧ cap ≤ maxLen ∧ (l ≠ [] → ∃ g off, a = some ⟨g, off, none⟩ ∧ g < w.heap.size ∧ CSrc w g off l)
theorem CS.form {w : World} {v : Value} {l : List ChgP} (h : CS w v l) : ∃ a c, v = .slice a l.length c := by
  obtain ⟨a, c, e, _⟩ := h
  exact ⟨a, c, e⟩
theorem CS.small {w : World} {v : Value} {l : List ChgP} (h : CS w v l) : l.length ≤ 9223372036854775807 := by
  obtain ⟨a, c, e, h1, h2, _⟩ := h
  unfold maxLen at h2
  omega
theorem CS.at {w : World} {a : Option Addr} {c : Nat} {l : List ChgP} (h : CS w (.slice a l.length c) l) (i : Nat) (x : ChgP) (hi : l[i]? = some x) :
    ∃ g off vc vg, a = some ⟨g, off, none⟩ ∧ g < w.heap.size ∧ w.rangeAt g (off + i * 2) [vc, vg] ∧ PS w vc x.come ∧ IS w vg x.go ∧ InB x.go := by
  obtain ⟨a', c', e, h1, h2, h4⟩ := h
  injection e with e _ _
  subst e
  obtain ⟨g, off, e, hg, hs⟩ := h4 (by intro e; subst e; simp at hi)
  obtain ⟨vc, vg, r⟩ := hs i x hi
  exact ⟨g, off, vc, vg, e, hg, r⟩
theorem is_valB {W : World} {v : Value} (h : Sh.Val W (.slice 1 (.int .i64)) v) : ∃ l : List Int, IS W v l ∧ InB l := by
  rcases (show _ ∨ _ from h) with h | ⟨a, len, cap, hv, hlc, hcm, hel⟩
  · obtain rfl : v = .slice none 0 0 := by simpa using h
    exact ⟨[], ⟨none, 0, rfl, Nat.le_refl _, by unfold maxLen; omega, fun h => absurd rfl h⟩, fun k hk => by cases hk⟩
  · obtain rfl : v = .slice (some a) len cap := by simpa using hv
    rcases Nat.eq_zero_or_pos len with h0 | hpos
    · subst h0
      exact ⟨[], ⟨some a, cap, rfl, hlc, hcm, fun h => absurd rfl h⟩, fun k hk => by cases hk⟩
    · obtain ⟨hs, hc⟩ := slice_cells (by decide) hpos hel
      have hf : ∀ i, ∃ x : Int, (i < len → W.cell? ⟨a.block, a.off + i, none⟩ = some (.int .i64 (x))) ∧ -9223372036854775808 ≤ x ∧ x ≤ 9223372036854775807 := by
        intro i
        by_cases hi : i < len
        · obtain ⟨cs, ⟨n, rfl, hw⟩, _, hj⟩ := hc i hi
          have h0 := hj 0 (by decide)
          exact ⟨n, fun _ => by simpa using h0, wf_i64 hw⟩
        · exact ⟨0, fun h => absurd h hi, by omega, by omega⟩
      obtain ⟨f, hf⟩ := Classical.axiomOfChoice hf
      obtain ⟨b, off, sp⟩ := a
      simp only at hs
      subst hs
      have hg : ∀ i, i < len → ((List.range len).map f).getD i 0 = f i := fun i hi' => by simp [List.getD, hi']
      refine ⟨(List.range len).map f, ⟨some ⟨b, off, none⟩, cap, by simp, by simpa using hlc, hcm, fun _ => ⟨b, off, rfl, cell_lt ((hf 0).1 hpos), fun i hi => ?_⟩⟩, fun k hk => ?_⟩
      · have hi' : i < len := by simpa using hi
        rw [hg i hi']
        exact (hf i).1 hi'
      · obtain ⟨i, _, rfl⟩ := List.mem_map.1 hk
        exact (hf i).2
theorem one_of {w : World} {s : Sh} {cs : List Value} (h : s.Ok w cs) (h1 : s.cells = 1) : ∃ v, cs = [v] := by
  have := h.len
  rw [h1] at this
  exact List.length_eq_one_iff.1 this
theorem chg_val {W : World} {v : Value} (h : Sh.Val W (.slice 2 (.pair (.slice 2 (.pair (.int .i64) (.pair (.int .i64) .unit))) (.pair (.slice 1 (.int .i64)) .unit))) v) : ∃ l : List ChgP, CS W v l := by
  rcases (show _ ∨ _ from h) with h | ⟨a, len, cap, hv, hlc, hcm, hel⟩
  · obtain rfl : v = .slice none 0 0 := by simpa using h
    exact ⟨[], none, 0, rfl, Nat.le_refl _, by unfold maxLen; omega, fun h => absurd rfl h⟩
  · obtain rfl : v = .slice (some a) len cap := by simpa using hv
    rcases Nat.eq_zero_or_pos len with h0 | hpos
    · subst h0
      exact ⟨[], some a, cap, rfl, hlc, hcm, fun h => absurd rfl h⟩
    · obtain ⟨hs, hc⟩ := slice_cells (by decide) hpos hel
      have hf : ∀ i, ∃ x : ChgP, i < len → ∃ vc vg, (W.cell? ⟨a.block, a.off + i * 2, none⟩ = some vc ∧ W.cell? ⟨a.block, a.off + i * 2 + 1, none⟩ = some vg) ∧ PS W vc x.come ∧ IS W vg x.go ∧ InB x.go := by
        intro i
        by_cases hi : i < len
        · obtain ⟨cs, ⟨x, y, rfl, hx, z, u, rfl, hz, hu⟩, _, hj⟩ := hc i hi
          obtain rfl : u = [] := hu
          obtain ⟨vc, rfl⟩ := one_of hx rfl
          obtain ⟨vg, rfl⟩ := one_of hz rfl
          obtain ⟨lc, hlc'⟩ := ps_val hx
          obtain ⟨lg, hlg, hb⟩ := is_valB hz
          have h0 := hj 0 (by decide)
          have h1 := hj 1 (by decide)
          exact ⟨⟨lc, lg⟩, fun _ => ⟨vc, vg, ⟨by simpa using h0, by simpa using h1⟩, hlc', hlg, hb⟩⟩
        · exact ⟨⟨[], []⟩, fun h => absurd h hi⟩
      obtain ⟨f, hf⟩ := Classical.axiomOfChoice hf
      obtain ⟨b, off, sp⟩ := a
      simp only at hs
      subst hs
      refine ⟨(List.range len).map f, some ⟨b, off, none⟩, cap, by simp, by simpa using hlc, hcm, fun _ => ⟨b, off, rfl, ?_, fun i x hi => ?_⟩⟩
      · obtain ⟨_, _, hh, _⟩ := hf 0 hpos
        exact cell_lt hh.1
      · have hi' : i < len := by have := (List.getElem?_eq_some_iff.1 hi).1; simpa using this
        have hx : x = f i := by
          rw [List.getElem?_map, List.getElem?_range hi'] at hi
          simpa using hi.symm
        subst hx
        obtain ⟨vc, vg, ⟨h0, h1⟩, r⟩ := hf i hi'
        refine ⟨vc, vg, fun j u hj => ?_, r⟩
        rcases (show j = 0 ∨ j = 1 by have := (List.getElem?_eq_some_iff.1 hj).1; simp at this; omega) with rfl | rfl
        · simp at hj; subst hj; exact h0
        · simp at hj; subst hj; exact h1
end Go.Proofs.YthgjdaomcpinaaaGreatDoor

/- The chapter's example of what is trusted. The program's walk. -/
set_option linter.unusedSimpArgs false
set_option linter.unusedVariables false
namespace Go.Proofs.YthgjdaomcpinaaaGreatDoor
open Go.RowKit Go.WideMaps Go.Maps Go.Sort Go.Shelf Pl

theorem TL.one {w : World} {base : Nat} {t : Tr} {ka ma : Option Addr} {kc mc : Nat} (r1 : SRow w base (.slice ka t.head.skips.length kc) t.head.skips) (r2 : MRow w base (.slice ma t.set.length mc) t.set) :
    TL (w.alloc (.cells #[.int .i64 (t.head.height), .int .i64 (t.head.epoch), .int .i64 (t.head.view), .bool t.head.last, .string ⟨List.toArray (t.head.parent)⟩, .string ⟨List.toArray (t.head.state)⟩, .string ⟨List.toArray (t.head.receipts)⟩, .string ⟨List.toArray (t.head.txs)⟩, .string ⟨List.toArray (t.head.members)⟩, .string ⟨List.toArray (t.head.next)⟩, .slice ka t.head.skips.length kc, .slice ma t.set.length mc, .int .i64 (t.at_)] 27)) (.slice (some ⟨w.heap.size, 0, none⟩) 1 1) [t] := by
  have hb := Below.allocS (Below.refl w.heap.size w) (.cells #[.int .i64 (t.head.height), .int .i64 (t.head.epoch), .int .i64 (t.head.view), .bool t.head.last, .string ⟨List.toArray (t.head.parent)⟩, .string ⟨List.toArray (t.head.state)⟩, .string ⟨List.toArray (t.head.receipts)⟩, .string ⟨List.toArray (t.head.txs)⟩, .string ⟨List.toArray (t.head.members)⟩, .string ⟨List.toArray (t.head.next)⟩, .slice ka t.head.skips.length kc, .slice ma t.set.length mc, .int .i64 (t.at_)] 27)
  refine ⟨_, _, rfl, Nat.le_refl _, by unfold maxLen; omega, fun _ => ⟨_, 0, rfl, by simp, fun i t' hi => ?_⟩⟩
  have h0 : i = 0 := by
    have := (List.getElem?_eq_some_iff.1 hi).1
    simp at this
    exact this
  subst h0
  simp only [List.getElem?_cons_zero, Option.some.injEq] at hi
  subst hi
  refine ⟨_, _, ?_, (r1.keep hb).ss, (r2.keep hb).ms, (r1.keep hb).plain, (r2.keep hb).plain⟩
  intro j u hj
  have h1 := (Blk.new w #[.int .i64 (t.head.height), .int .i64 (t.head.epoch), .int .i64 (t.head.view), .bool t.head.last, .string ⟨List.toArray (t.head.parent)⟩, .string ⟨List.toArray (t.head.state)⟩, .string ⟨List.toArray (t.head.receipts)⟩, .string ⟨List.toArray (t.head.txs)⟩, .string ⟨List.toArray (t.head.members)⟩, .string ⟨List.toArray (t.head.next)⟩, .slice ka t.head.skips.length kc, .slice ma t.set.length mc, .int .i64 (t.at_)] 27).cell j
  rw [Nat.zero_mul, Nat.zero_add, h1, ← hj]
  simp [tcs]
set_option maxRecDepth 100000 in
set_option maxHeartbeats 8000000 in
theorem tworks_any (w : World) (hk : KT w) :
    Calls Tryz.prog 9 #[] w fun e w' => e = .returned (.bool true) ∧ Below w.heap.size w w' := by
  have q1 := dnew_any 1000 (by omega) (by omega) w
  go_enter Tryz.func9, Tryz.ntmps9
  go_wp2_with fail
  refine q1.mono ?_
  rintro e w1 ⟨rfl, hD, hb1⟩
  have q2 := topen_empty [w.heap.size] w.heap.size ⟨[], 0, 1000, -1, false⟩ 10 (by omega) (by omega) rfl (by simp) (by rfl) w1 hD
  rw [show (syncD ⟨[], 0, 1000, -1, false⟩).1 = ⟨[], 0, 1000, -1, false⟩ from by rfl] at q2
  have hpl : w.heap.size < w1.heap.size := by
    obtain ⟨_, _, h⟩ := hD.row
    exact h.lt
  clear q1 hD
  go_wp2_with fail
  refine q2.mono ?_
  rintro e w2 ⟨j, m, q, rfl, hj, hjm, hmq, hJ, hD, ho, hQ, m2⟩
  have hb2 := Below.mod hb1 m2 hb1.size (by simp)
  have hs1 := hb1.size
  have hql := hQ.lt
  have hM : TrM w2 w2.heap.size m [] := TrM.nil ho
  have q3 := some_any 1 5 w2 (by omega) (by omega) (hk.keep hb2)
  obtain ⟨t, ht⟩ : ∃ t, t = someT 1 5 := ⟨_, rfl⟩
  have t1 : t.head.height = 3 := by rw [ht]; rfl
  have t2 : t.at_ = 5 := by rw [ht]; rfl
  have t3 : t.head.skips = [] := by rw [ht]; rfl
  have t4 : t.set.length = 1 := by rw [ht]; rfl
  have t5 : fineT t = true := by rw [ht]; exact some_fine 1 5 (by omega) (by omega) (by omega) (by omega)
  have t6 : (writT t).length ≤ 430 := by rw [ht]; exact some_len 1 5
  rw [← ht] at q3
  clear ht q2 ho hb1
  have hmay : mayR (batchT [t]) = true := may_small _ 431 (by intro x hx; simp [batchT] at hx; subst hx; simp; omega) (by simp [batchT]) (by omega)
  have hrl := rec_len (batchT [t]) 431 (by intro x hx; simp [batchT] at hx; subst hx; simp; omega)
  have hwr := writeD_ok ⟨[], 0, 1000, -1, false⟩ (batchT [t]) rfl (by simp) (by simp [batchT] at hrl ⊢; omega)
  have hadd : addD ⟨[], 0, 1000, -1, false⟩ [] [t] = ((writeD ⟨[], 0, 1000, -1, false⟩ (batchT [t])).1, [(3, t)], 0, tornD (writeD ⟨[], 0, 1000, -1, false⟩ (batchT [t])).2) := addD_yes (by simp [t5]) (by rw [addsT_step (clashT_new (by simp [hts])), putK_new (by simp [hts]), t1]; rfl) (by simp) (by rw [hwr])
  have HT1 := Lib.hid t1
  have HT2 := Lib.hid t2
  have HT3 := Lib.hid t3
  have HT4 := Lib.hid t4
  have HADD := Lib.hid hadd
  have HMAY := Lib.hid hmay
  have HMM := Lib.hid hM
  have HQQ := Lib.hid hQ
  have HDD := Lib.hid hD
  have HJJ := Lib.hid hJ
  have HKT := Lib.hid hk
  clear hwr hrl t5 t6 t1 t2 t3 t4 hadd hmay hM hQ hD hJ hk m2
  go_wp2_with fail
  refine q3.mono ?_
  rintro e w3 ⟨v, rfl, ⟨sk, ms, rfl, r1, r2⟩, hb⟩
  obtain ⟨ka, kc, rfl⟩ := r1.form
  obtain ⟨ma, mc, rfl⟩ := r2.form
  have hb3 := hb2.trans (hb.mono hb2.size)
  have hs2 := hb.size
  have hbt := Below.allocS hb (.cells #[.int .i64 (t.head.height), .int .i64 (t.head.epoch), .int .i64 (t.head.view), .bool t.head.last, .string ⟨List.toArray (t.head.parent)⟩, .string ⟨List.toArray (t.head.state)⟩, .string ⟨List.toArray (t.head.receipts)⟩, .string ⟨List.toArray (t.head.txs)⟩, .string ⟨List.toArray (t.head.members)⟩, .string ⟨List.toArray (t.head.next)⟩, .slice ka t.head.skips.length kc, .slice ma t.set.length mc, .int .i64 (t.at_)] 27)
  have hb4 := hb2.trans (hbt.mono hb2.size)
  have hTL := TL.one r1 r2
  have q4 := tadd_any [q, m, j, w.heap.size] w2.heap.size w.heap.size j q m 10 ⟨[], 0, 1000, -1, false⟩ [] _ [t] (by simp) (by simp) HMAY.out (by simp) (by simp) (by simp) (by intro x hx; rw [List.mem_singleton] at hx; subst hx; rw [HT3.out, HT4.out, HT1.out]; simp) _ (HKT.out.keep hb4) (HDD.out.keep hbt) (HJJ.out.keep hbt) (by omega) (by simp) (by simp) (by intro x hx; simp at hx; simp; omega) (by omega) (by omega) hql (by omega) (by omega) (by simp; omega) (HQQ.out.keep hbt) (HMM.out.keep hbt) hTL
  rw [HADD.out] at q4
  clear q3 r1 r2 hTL hb hb3
  go_wp2_with fail
  refine q4.mono ?_
  rintro e w5 ⟨m', rfl, hQ5, hM5, _, _, m5⟩
  have hb5 := Below.mod hb4 m5 hb4.size (by simp; omega)
  have hs5 := hb5.size
  have q5 := tat_any w2.heap.size q m' 10 (.pointer (some ⟨j, 0, none⟩)) [(3, t)] 3 14 t (by omega) (by omega) (by omega) (by simp) (by rw [HT3.out]; simp) (by rw [HT4.out]; omega) w5 hM5 hQ5
  rw [show staleT 10 14 t = false from by unfold staleT; rw [HT2.out]; rfl] at q5
  simp only [Bool.false_eq_true, ↓reduceIte] at q5
  clear q4 m5 hb4 hbt hb2
  go_wp2_with fail
  refine q5.mono ?_
  rintro e w6 ⟨v6, rfl, ⟨sk, ms, rfl, r1, r2⟩, hb⟩
  obtain ⟨xa, xc, rfl⟩ := r1.form
  obtain ⟨ya, yc, rfl⟩ := r2.form
  have hM6 := hM5.keep hb
  have hQ6 := hQ5.keep hb
  have hb6 := hb5.trans (hb.mono hb5.size)
  have hs6 := hb6.size
  clear q5 hM5 hQ5 hb hb5
  go_wp2_with (first | (refine wpList_rowStore row_trust rfl rfl (.tmp 5) (.tmp 40) rfl rfl rfl (vs := [.int .i64 (t.head.height), .int .i64 (t.head.epoch), .int .i64 (t.head.view), .bool t.head.last, .string ⟨List.toArray (t.head.parent)⟩, .string ⟨List.toArray (t.head.state)⟩, .string ⟨List.toArray (t.head.receipts)⟩, .string ⟨List.toArray (t.head.txs)⟩, .string ⟨List.toArray (t.head.members)⟩, .string ⟨List.toArray (t.head.next)⟩, .slice xa t.head.skips.length xc, .slice ya t.set.length yc, .int .i64 (t.at_)]) rfl (by simp [Value.oneCell']) (us := [.int .i64 (0), .int .i64 (0), .int .i64 (0), .bool false, .string ⟨List.toArray ([])⟩, .string ⟨List.toArray ([])⟩, .string ⟨List.toArray ([])⟩, .string ⟨List.toArray ([])⟩, .string ⟨List.toArray ([])⟩, .string ⟨List.toArray ([])⟩, .slice none 0 0, .slice none 0 0, .int .i64 (0)]) rfl (Blk.new' (by simp)) ?_; intro w7 N7 m7; have hbn := Below.mod (Below.allocS (Below.refl w6.heap.size w6) (.cells #[.int .i64 (0), .int .i64 (0), .int .i64 (0), .bool false, .string ⟨List.toArray ([])⟩, .string ⟨List.toArray ([])⟩, .string ⟨List.toArray ([])⟩, .string ⟨List.toArray ([])⟩, .string ⟨List.toArray ([])⟩, .string ⟨List.toArray ([])⟩, .slice none 0 0, .slice none 0 0, .int .i64 (0)] 27)) m7 (by simp) (by simp); have q6 := tat_any w2.heap.size q m' 10 (.pointer (some ⟨j, 0, none⟩)) [(3, t)] 3 15 t (by omega) (by omega) (by omega) (by simp) (by rw [HT3.out]; simp) (by rw [HT4.out]; omega) w7 (hM6.keep hbn) (hQ6.keep hbn); rw [show staleT 10 15 t = true from by unfold staleT; rw [HT2.out]; rfl] at q6; simp only [↓reduceIte] at q6))
  refine q6.mono ?_
  rintro e w8 ⟨v8, rfl, rfl, hb⟩
  have hb7 := hb6.trans (hbn.mono hb6.size)
  have hb8 := hb7.trans (hb.mono hb7.size)
  clear q6 hM6 hQ6 hb hb6 hb7 hbn r1 r2 N7 m7
  obtain ⟨u, hu⟩ : ∃ u, u = someT 2 0 := ⟨_, rfl⟩
  have HU : Hid (codeT (fineT u) = 0) := Lib.hid (by rw [hu, some_fine 2 0 (by omega) (by omega) (by omega) (by omega)]; rfl)
  have HZ : Hid (codeT (fineT ⟨⟨0, 0, 0, false, [], [], [], [], [], [], []⟩, [], 0⟩) = 3) := Lib.hid rfl
  go_wp2_with (first | (refine wpList_rowStore row_trust rfl rfl (.tmp 7) (.tmp 45) rfl rfl rfl (vs := [.int .i64 (0), .int .i64 (0), .int .i64 (0), .bool false, .string ⟨List.toArray ([])⟩, .string ⟨List.toArray ([])⟩, .string ⟨List.toArray ([])⟩, .string ⟨List.toArray ([])⟩, .string ⟨List.toArray ([])⟩, .string ⟨List.toArray ([])⟩, .slice none 0 0, .slice none 0 0, .int .i64 (0)]) rfl (by simp [Value.oneCell']) (us := [.int .i64 (0), .int .i64 (0), .int .i64 (0), .bool false, .string ⟨List.toArray ([])⟩, .string ⟨List.toArray ([])⟩, .string ⟨List.toArray ([])⟩, .string ⟨List.toArray ([])⟩, .string ⟨List.toArray ([])⟩, .string ⟨List.toArray ([])⟩, .slice none 0 0, .slice none 0 0, .int .i64 (0)]) rfl (Blk.new' (by simp)) ?_; intro w9 N9 m9; have hbn := Below.mod (Below.allocS (Below.refl w8.heap.size w8) (.cells #[.int .i64 (0), .int .i64 (0), .int .i64 (0), .bool false, .string ⟨List.toArray ([])⟩, .string ⟨List.toArray ([])⟩, .string ⟨List.toArray ([])⟩, .string ⟨List.toArray ([])⟩, .string ⟨List.toArray ([])⟩, .string ⟨List.toArray ([])⟩, .slice none 0 0, .slice none 0 0, .int .i64 (0)] 27)) m9 (by simp) (by simp); have hb9 := hb8.trans (hbn.mono hb8.size); have q7 := some_any 2 0 w9 (by omega) (by omega) (HKT.out.keep hb9); rw [← hu] at q7))
  refine q7.mono ?_
  rintro e w10 ⟨v, rfl, ⟨sk, ms, rfl, r1, r2⟩, hb⟩
  have hb10 := hb9.trans (hb.mono hb9.size)
  have q8 := tr_check u.head.height u.head.epoch u.head.view u.head.last u.head.parent u.head.state u.head.receipts u.head.txs u.head.members u.head.next u.head.skips _ u.set _ u.at_ w10 r1.ss r2.ms (HKT.out.keep hb10)
  rw [show codeT (fineT ⟨⟨u.head.height, u.head.epoch, u.head.view, u.head.last, u.head.parent, u.head.state, u.head.receipts, u.head.txs, u.head.members, u.head.next, u.head.skips⟩, u.set, u.at_⟩) = 0 from HU.out] at q8
  clear q7 hu r1 r2 hb hb9 hbn N9 m9 hb8
  go_wp2_with fail
  refine q8.mono ?_
  rintro e w11 ⟨rfl, hb⟩
  have hb11 := hb10.trans (hb.mono hb10.size)
  have q9 := tr_check 0 0 0 false [] [] [] [] [] [] [] _ [] _ 0 w11 (SS.nil w11) (MRow.nil w11 0).ms (HKT.out.keep hb11)
  rw [HZ.out] at q9
  clear q8 hb10 hb
  go_wp2_with fail
  refine q9.mono ?_
  rintro e w12 ⟨rfl, hb⟩
  go_wp2_with fail
  go_ret
  exact ⟨rfl, hb11.trans (hb.mono hb11.size)⟩
end Go.Proofs.YthgjdaomcpinaaaGreatDoor
