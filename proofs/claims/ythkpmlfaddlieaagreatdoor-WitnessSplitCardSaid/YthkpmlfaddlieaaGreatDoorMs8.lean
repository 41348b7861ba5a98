/- HeadB, HeadE, Held, HeadD, MRow, MEnc, MDec, MRef, RefF. -/
import Derived.Test.YthkpmlfaddlieaaGreatDoorMs7
set_option linter.unnecessarySimpa false
set_option linter.unusedSimpArgs false
set_option linter.unusedVariables false
set_option maxRecDepth 100000
set_option maxHeartbeats 32000000
namespace Go.Proofs.YthkpmlfaddlieaaGreatDoor
namespace Pl
theorem flat_len32 : ∀ (l : List Bs), (∀ x ∈ l, x.length = 32) → l.flatten.length = 32 * l.length
 | [], _ => rfl
 | x :: l, h => by
  rw [List.flatten_cons, List.length_append, h x (by simp), flat_len32 l (fun y hy => h y (by simp [hy])), List.length_cons]
  omega
structure FineH (h : Hd) : Prop where
 hn : 0 ≤ h.height ∧ h.height ≤ 1048576
 en : 0 ≤ h.epoch ∧ h.epoch ≤ 1048576
 vn : 0 ≤ h.view ∧ h.view ≤ 1048576
 txs : h.txs.length = 32
 members : h.members.length = 32
 next : h.next.length = 32
 state : h.state.length ≤ 32
 receipts : h.receipts.length ≤ 32
 parent : h.parent.length ≤ 32
 skl : h.skips.length = (linksF h.height).length
 sk : ∀ x ∈ h.skips, x.length = 32
theorem may_le {s : Bs} (h : may32 s = true) : s.length ≤ 32 := by
 unfold may32 at h
 simp only [Bool.or_eq_true, decide_eq_true_eq] at h
 rcases h with h | h
 ·subst h; simp
 ·omega
theorem fine_parts {h : Hd} (hf : fineH h = true) : FineH h := by
 rw [← fineHR_eq] at hf
 unfold fineHR numsH inH endH at hf
 simp only [Bool.and_eq_true, decide_eq_true_eq, List.all_eq_true] at hf
 obtain ⟨⟨⟨⟨h1, h2⟩, h3⟩, h4⟩, h5⟩ := hf
 refine ⟨h1.1.1, h1.1.2, h1.2, h2.1.1.1.1, h2.1.1.1.2, h2.1.1.2, may_le h2.1.2, may_le h2.2, ?_, h3, h4⟩
 split at h5
 ·simp only [Bool.and_eq_true, decide_eq_true_eq] at h5
  rw [h5.1.1.1]
  simp
 ·simp only [Bool.and_eq_true, decide_eq_true_eq] at h5
  omega
theorem num_len' (n : Nat) : (num n).length ≤ 9 := by
 unfold num
 have := digs_len 8 n
 simp
 omega
theorem writH_len {h : Hd} (hf : fineH h = true) : (writH h).length ≤ 1000 := by
 have p := fine_parts hf
 have hl := linksF_len h.height
 have h1 := num_len' h.height.toNat
 have h2 := num_len' h.epoch.toNat
 have h3 := num_len' h.view.toNat
 have h4 := text_len h.parent
 have h5 := text_len h.state
 have h6 := text_len h.receipts
 have h7 := p.txs
 have h8 := p.members
 have h9 := p.next
 have h10 := flat_len32 h.skips p.sk
 have h11 := p.parent
 have h12 := p.state
 have h13 := p.receipts
 have h14 := p.skl
 have h15 : (flagB h.last).length = 1 := by cases h.last <;> rfl
 unfold writH
 simp only [List.length_append]
 omega
end Pl
end Go.Proofs.YthkpmlfaddlieaaGreatDoor
namespace Go.Proofs.YthkpmlfaddlieaaGreatDoor
open Go.RowKit Go.Shelf Pl
def encHR (h : Hd) : Bs × Int := if fineH h then (writH h, 0) else ([], 190)
theorem encHR_yes {h : Hd} (hf : fineH h = true) : encHR h = (writH h, 0) := by unfold encHR; rw [hf]; rfl
theorem encHR_no {h : Hd} (hf : fineH h = false) : encHR h = ([], 190) := by unfold encHR; rw [hf]; rfl
def pre3 (n1 n2 n3 : Bs) : Nat → Bs
 | 0 => []
 | 1 => n1
 | 2 => n1 ++ n2
 | _ => n1 ++ (n2 ++ n3)
theorem flat_takeK (K : List Bs) (i : Nat) (hi : i < K.length) : (K.take (i + 1)).flatten = (K.take i).flatten ++ K.getD i [] := by
 rw [List.take_add_one, List.getElem?_eq_getElem hi, List.getD_eq_getElem?_getD, List.getElem?_eq_getElem hi, List.flatten_append]
 simp
theorem hd_encode (a1 a2 a3 : Int) (lb : Bool) (pa st rc tx me ne : Bs) (K : List Bs) (sk : Value) (w : World) (hk : SS w sk K) :
  Calls Tryz.prog 17 #[.agg #[.int .i64 a1, .int .i64 a2, .int .i64 a3, .bool lb, .string ⟨pa.toArray⟩, .string ⟨st.toArray⟩, .string ⟨rc.toArray⟩, .string ⟨tx.toArray⟩, .string ⟨me.toArray⟩, .string ⟨ne.toArray⟩, sk]] w fun e w' => e = .returned (.tuple #[.string ⟨List.toArray ((encHR ⟨a1, a2, a3, lb, pa, st, rc, tx, me, ne, K⟩).1)⟩, .int .i64 ((encHR ⟨a1, a2, a3, lb, pa, st, rc, tx, me, ne, K⟩).2)]) ∧ Below w.heap.size w w' := by
 have hb0 : Below w.heap.size w (w.alloc (.cells #[.int .i64 a1, .int .i64 a2, .int .i64 a3, .bool lb, .string ⟨pa.toArray⟩, .string ⟨st.toArray⟩, .string ⟨rc.toArray⟩, .string ⟨tx.toArray⟩, .string ⟨me.toArray⟩, .string ⟨ne.toArray⟩, sk] 48)) := Below.allocS (Below.refl _ _) _
 have B0 : Blk (w.alloc (.cells #[.int .i64 a1, .int .i64 a2, .int .i64 a3, .bool lb, .string ⟨pa.toArray⟩, .string ⟨st.toArray⟩, .string ⟨rc.toArray⟩, .string ⟨tx.toArray⟩, .string ⟨me.toArray⟩, .string ⟨ne.toArray⟩, sk] 48)) w.heap.size #[.int .i64 a1, .int .i64 a2, .int .i64 a3, .bool lb, .string ⟨pa.toArray⟩, .string ⟨st.toArray⟩, .string ⟨rc.toArray⟩, .string ⟨tx.toArray⟩, .string ⟨me.toArray⟩, .string ⟨ne.toArray⟩, sk] := Blk.new _ _ _
 have q1 := hd_check a1 a2 a3 lb pa st rc tx me ne K sk _ (hk.keep hb0)
 obtain ⟨ka, kc, rfl⟩ := hk.form
 have HK := Lib.hid hk
 clear hk
 cases hf : fineH ⟨a1, a2, a3, lb, pa, st, rc, tx, me, ne, K⟩
 ·rw [encHR_no hf]
  rw [hf] at q1
  clear hf
  go_enter Tryz.func17, Tryz.ntmps17
  go_wp2_with fail
  refine q1.mono ?_
  rintro e w1 ⟨rfl, hb⟩
  have hb1 := hb0.trans (hb.mono hb0.size)
  go_wp2_with fail
  go_ret2
  exact ⟨rfl, hb1⟩
 ·rw [encHR_yes hf]
  rw [hf] at q1
  have p := fine_parts hf
  have hw : writH ⟨a1, a2, a3, lb, pa, st, rc, tx, me, ne, K⟩ = (num a1.toNat ++ num a2.toNat ++ num a3.toNat) ++ (flagB lb ++ text pa ++ text st ++ text rc ++ tx ++ me ++ ne) ++ K.flatten := by
   unfold writH
   simp only [List.append_assoc]
  have g1 := p.hn
  have g2 := p.en
  have g3 := p.vn
  have g4 := p.txs
  have g5 := p.members
  have g6 := p.next
  have g7 := p.state
  have g8 := p.receipts
  have g9 := p.parent
  have g10 := p.skl
  have g11 := linksF_len a1
  have HKL := Lib.hid p.sk
  simp only at g1 g2 g3 g4 g5 g6 g7 g8 g9 g10
  have HKN : Hid (K.length ≤ 20) := Lib.hid (by omega)
  have HW := Lib.hid hw
  have n1 := fun W => cNum_any a1.toNat (by omega) W
  have n2 := fun W => cNum_any a2.toNat (by omega) W
  have n3 := fun W => cNum_any a3.toNat (by omega) W
  rw [show ((a1.toNat : Nat) : Int) = a1 from by omega] at n1
  rw [show ((a2.toNat : Nat) : Int) = a2 from by omega] at n2
  rw [show ((a3.toNat : Nat) : Int) = a3 from by omega] at n3
  have l1 := num_len a1.toNat
  have l2 := num_len a2.toNat
  have l3 := num_len a3.toNat
  have c1 := fun W => cflag_any lb W
  have c2 := fun W => ctext_any pa (by omega) W
  have c3 := fun W => ctext_any st (by omega) W
  have c4 := fun W => ctext_any rc (by omega) W
  have m1 : (flagB lb).length = 1 := by cases lb <;> rfl
  have m2 := text_len pa
  have m3 := text_len st
  have m4 := text_len rc
  clear hf p hw g10 g11 g1 g2 g3
  generalize writH ⟨a1, a2, a3, lb, pa, st, rc, tx, me, ne, K⟩ = R at *
  generalize num a1.toNat = N1 at *
  generalize num a2.toNat = N2 at *
  generalize num a3.toNat = N3 at *
  generalize flagB lb = F1 at *
  generalize text pa = T1 at *
  generalize text st = T2 at *
  generalize text rc = T3 at *
  have HN : Hid (N1.length ≤ 9 ∧ N2.length ≤ 9 ∧ N3.length ≤ 9) := Lib.hid ⟨l1, l2, l3⟩
  have HT : Hid (F1.length = 1 ∧ T1.length ≤ 41 ∧ T2.length ≤ 41 ∧ T3.length ≤ 41 ∧ tx.length = 32 ∧ me.length = 32 ∧ ne.length = 32) := Lib.hid ⟨m1, by omega, by omega, by omega, g4, g5, g6⟩
  clear l1 l2 l3 m1 m2 m3 m4 g4 g5 g6 g7 g8 g9
  go_enter Tryz.func17, Tryz.ntmps17
  go_wp2_with fail
  refine q1.mono ?_
  rintro e w1 ⟨rfl, hb⟩
  have hb1 := hb0.trans (hb.mono hb0.size)
  have B1 := B0.keep hb
  clear q1 hb hb0 B0
  obtain ⟨b1, b2, b3⟩ := id B1
  go_wp2_with fail
  have A2 : Blk (w1.alloc (.cells #[.int .i64 a1, .int .i64 a2, .int .i64 a3] 3)) w1.heap.size #[.int .i64 a1, .int .i64 a2, .int .i64 a3] := Blk.new _ _ _
  have hb2 := Below.allocS hb1 (.cells #[.int .i64 a1, .int .i64 a2, .int .i64 a3] 3)
  have B2 := B1.alloc (.cells #[.int .i64 a1, .int .i64 a2, .int .i64 a3] 3)
  clear b1 b2 b3 B1
  go_loopw [5, 25] (fun s5 s25 wr => ∃ i : Nat, s25 = .int .i64 i ∧ i ≤ 3 ∧ s5 = .string ⟨List.toArray (pre3 N1 N2 N3 i)⟩ ∧ Blk wr w1.heap.size #[.int .i64 a1, .int .i64 a2, .int .i64 a3] ∧ Blk wr w.heap.size #[.int .i64 a1, .int .i64 a2, .int .i64 a3, .bool lb, .string ⟨pa.toArray⟩, .string ⟨st.toArray⟩, .string ⟨rc.toArray⟩, .string ⟨tx.toArray⟩, .string ⟨me.toArray⟩, .string ⟨ne.toArray⟩, .slice ka K.length kc] ∧ Below w.heap.size w wr) (fun _ s25 _ => 3 - (intOf s25).toNat)
  case atStart => exact ⟨0, rfl, by omega, rfl, A2, B2, hb2⟩
  case round =>
   clear A2 B2 hb2
   obtain ⟨i, rfl, hi, rfl, A, B, hb⟩ := hrel
   obtain ⟨wr, hnm⟩ := Below.name hb
   subst hnm
   obtain ⟨z1, z2, z3⟩ := HN.out
   obtain ⟨b1, b2, b3⟩ := id A
   have hbs := hb1.size
   rcases (show i = 0 ∨ i = 1 ∨ i = 2 ∨ i = 3 by omega) with rfl | rfl | rfl | rfl
   ·rw [show pre3 N1 N2 N3 0 = [] from rfl]
    go_wp2_with fail
    refine (n1 _).mono ?_
    rintro e w3 ⟨rfl, hb3⟩
    go_wp2_with fail
    refine ⟨?_, by simp [intOf]⟩
    (repeat apply Exists.intro)
    exact ⟨⟨1, rfl, by omega, rfl, A.keep hb3, B.keep hb3, hb.trans (hb3.mono hb.size)⟩, rfl⟩
   ·rw [show pre3 N1 N2 N3 1 = N1 from rfl]
    have k1 : ¬ 9223372036854775807 < N1.length + N2.length := by omega
    go_wp2_with fail
    refine (n2 _).mono ?_
    rintro e w3 ⟨rfl, hb3⟩
    go_wp2_with fail
    refine ⟨?_, by simp [intOf]⟩
    (repeat apply Exists.intro)
    exact ⟨⟨2, rfl, by omega, rfl, A.keep hb3, B.keep hb3, hb.trans (hb3.mono hb.size)⟩, rfl⟩
   ·rw [show pre3 N1 N2 N3 2 = N1 ++ N2 from rfl]
    have k1 : ¬ 9223372036854775807 < N1.length + N2.length + N3.length := by omega
    go_wp2_with fail
    refine (n3 _).mono ?_
    rintro e w3 ⟨rfl, hb3⟩
    go_wp2_with fail
    refine ⟨?_, by simp [intOf]⟩
    (repeat apply Exists.intro)
    exact ⟨⟨3, rfl, by omega, rfl, A.keep hb3, B.keep hb3, hb.trans (hb3.mono hb.size)⟩, rfl⟩
   ·rw [show pre3 N1 N2 N3 3 = N1 ++ (N2 ++ N3) from rfl]
    clear b1 b2 b3 A n1 n2 n3
    have HR : Hid (R = (N1 ++ (N2 ++ N3)) ++ (F1 ++ T1 ++ T2 ++ T3 ++ tx ++ me ++ ne) ++ K.flatten) := Lib.hid (by rw [HW.out, List.append_assoc N1 N2 N3])
    have hnl : (N1 ++ (N2 ++ N3)).length ≤ 27 := by simp; omega
    generalize N1 ++ (N2 ++ N3) = N at *
    go_wp2_with fail
    obtain ⟨t1, t2, t3, t4, t5, t6, t7⟩ := HT.out
    have k1 : ¬ 9223372036854775807 < F1.length + T1.length := by omega
    have k2 : ¬ 9223372036854775807 < F1.length + T1.length + T2.length := by omega
    have k3 : ¬ 9223372036854775807 < F1.length + T1.length + T2.length + T3.length := by omega
    have k4 : ¬ 9223372036854775807 < F1.length + T1.length + T2.length + T3.length + tx.length := by omega
    have k5 : ¬ 9223372036854775807 < F1.length + T1.length + T2.length + T3.length + tx.length + me.length := by omega
    have k6 : ¬ 9223372036854775807 < F1.length + T1.length + T2.length + T3.length + tx.length + me.length + ne.length := by omega
    have k7 : ¬ 9223372036854775807 < N.length + (F1.length + T1.length + T2.length + T3.length + tx.length + me.length + ne.length) := by omega
    have r3 : ¬ 9223372036854775807 < F1.length + (T1.length + (T2.length)) + T3.length := by omega
    have r4 : ¬ 9223372036854775807 < F1.length + (T1.length + (T2.length + (T3.length))) + tx.length := by omega
    have r5 : ¬ 9223372036854775807 < F1.length + (T1.length + (T2.length + (T3.length + (tx.length)))) + me.length := by omega
    have r6 : ¬ 9223372036854775807 < F1.length + (T1.length + (T2.length + (T3.length + (tx.length + (me.length))))) + ne.length := by omega
    have r7 : ¬ 9223372036854775807 < N.length + (F1.length + (T1.length + (T2.length + (T3.length + (tx.length + (me.length + (ne.length))))))) := by omega
    have hml : (N ++ (F1 ++ (T1 ++ (T2 ++ (T3 ++ (tx ++ (me ++ ne))))))).length ≤ 300 := by simp only [List.length_append]; omega
    clear t1 t2 t3 t4 t5 t6 t7
    refine wpH_start (by kernel_rfl) (fun hS => ?_)
    (refine hP 0 ?_ ⟨some 38, .move (.tmp 5), 9, "", #[], none⟩ hS ?_ ?_; rotate_left; focus (intro w; go_simp; try with_reducible rfl))
    try simp only [pna, pnb, pnc, pnd, pne]
    (refine hP 1 ?_ ⟨some 39, .fieldAddr 48 (.tmp 1) 3, 0, "", #[], none⟩ hS ?_ ?_; rotate_left; focus (intro w; go_simp; try with_reducible rfl))
    try simp only [pna, pnb, pnc, pnd, pne]
    refine wpH_load 2 (.bool lb) (oi := ⟨some 40,.load 4 (.tmp 39),4,"header.go:63",#[⟨1,.data⟩],none⟩) rfl (by kernel_rfl) (by kernel_rfl) (by kernel_rfl) (by rfl) hS (fun _ _ _ h => h) (fun w hb2 => (by have c := (B.keep hb2).cell 3; go_simp; try rfl)) ?_
    try simp only [pna, pnb, pnc, pnd, pne]
    (refine hP 4 ?_ ⟨some 42, .fieldAddr 48 (.tmp 1) 4, 0, "", #[], none⟩ hS ?_ ?_; rotate_left; focus (intro w; go_simp; try with_reducible rfl))
    try simp only [pna, pnb, pnc, pnd, pne]
    refine wpH_load 5 (.string ⟨pa.toArray⟩) (oi := ⟨some 43,.load 9 (.tmp 42),9,"header.go:63",#[⟨4,.data⟩],none⟩) rfl (by kernel_rfl) (by kernel_rfl) (by kernel_rfl) (by rfl) hS (fun _ _ _ h => h) (fun w hb2 => (by have c := (B.keep hb2).cell 4; go_simp; try rfl)) ?_
    try simp only [pna, pnb, pnc, pnd, pne]
    (refine hP 8 ?_ ⟨some 46, .fieldAddr 48 (.tmp 1) 5, 0, "", #[], none⟩ hS ?_ ?_; rotate_left; focus (intro w; go_simp; try with_reducible rfl))
    try simp only [pna, pnb, pnc, pnd, pne]
    refine wpH_load 9 (.string ⟨st.toArray⟩) (oi := ⟨some 47,.load 9 (.tmp 46),9,"header.go:63",#[⟨8,.data⟩],none⟩) rfl (by kernel_rfl) (by kernel_rfl) (by kernel_rfl) (by rfl) hS (fun _ _ _ h => h) (fun w hb2 => (by have c := (B.keep hb2).cell 5; go_simp; try rfl)) ?_
    try simp only [pna, pnb, pnc, pnd, pne]
    (refine hP 12 ?_ ⟨some 50, .fieldAddr 48 (.tmp 1) 6, 0, "", #[], none⟩ hS ?_ ?_; rotate_left; focus (intro w; go_simp; try with_reducible rfl))
    try simp only [pna, pnb, pnc, pnd, pne]
    refine wpH_load 13 (.string ⟨rc.toArray⟩) (oi := ⟨some 51,.load 9 (.tmp 50),9,"header.go:63",#[⟨12,.data⟩],none⟩) rfl (by kernel_rfl) (by kernel_rfl) (by kernel_rfl) (by rfl) hS (fun _ _ _ h => h) (fun w hb2 => (by have c := (B.keep hb2).cell 6; go_simp; try rfl)) ?_
    try simp only [pna, pnb, pnc, pnd, pne]
    (refine hP 16 ?_ ⟨some 54, .fieldAddr 48 (.tmp 1) 7, 0, "", #[], none⟩ hS ?_ ?_; rotate_left; focus (intro w; go_simp; try with_reducible rfl))
    try simp only [pna, pnb, pnc, pnd, pne]
    refine wpH_load 17 (.string ⟨tx.toArray⟩) (oi := ⟨some 55,.load 9 (.tmp 54),9,"header.go:63",#[⟨16,.data⟩],none⟩) rfl (by kernel_rfl) (by kernel_rfl) (by kernel_rfl) (by rfl) hS (fun _ _ _ h => h) (fun w hb2 => (by have c := (B.keep hb2).cell 7; go_simp; try rfl)) ?_
    try simp only [pna, pnb, pnc, pnd, pne]
    (refine hP 19 ?_ ⟨some 57, .fieldAddr 48 (.tmp 1) 8, 0, "", #[], none⟩ hS ?_ ?_; rotate_left; focus (intro w; go_simp; try with_reducible rfl))
    try simp only [pna, pnb, pnc, pnd, pne]
    refine wpH_load 20 (.string ⟨me.toArray⟩) (oi := ⟨some 58,.load 9 (.tmp 57),9,"header.go:63",#[⟨19,.data⟩],none⟩) rfl (by kernel_rfl) (by kernel_rfl) (by kernel_rfl) (by rfl) hS (fun _ _ _ h => h) (fun w hb2 => (by have c := (B.keep hb2).cell 8; go_simp; try rfl)) ?_
    try simp only [pna, pnb, pnc, pnd, pne]
    (refine hP 22 ?_ ⟨some 60, .fieldAddr 48 (.tmp 1) 9, 0, "", #[], none⟩ hS ?_ ?_; rotate_left; focus (intro w; go_simp; try with_reducible rfl))
    try simp only [pna, pnb, pnc, pnd, pne]
    refine wpH_load 23 (.string ⟨ne.toArray⟩) (oi := ⟨some 61,.load 9 (.tmp 60),9,"header.go:63",#[⟨22,.data⟩],none⟩) rfl (by kernel_rfl) (by kernel_rfl) (by kernel_rfl) (by rfl) hS (fun _ _ _ h => h) (fun w hb2 => (by have c := (B.keep hb2).cell 9; go_simp; try rfl)) ?_
    try simp only [pna, pnb, pnc, pnd, pne]
    refine wpH_call 3 (oi := ⟨some 41,.call { callee := .value (.func 45), args := #[.tmp 40], argTypes := #[4] },9,"header.go:63",#[⟨2,.data⟩],none⟩) rfl (by kernel_rfl) (by rfl) (c1 _) ?_ ?_
    ·(go_simp; try rfl)
    rintro e w' ⟨rfl, hbx⟩
    refine ⟨_, rfl, hS.trans (hbx.mono hS.size), ?_⟩
    replace hS := hS.trans (hbx.mono hS.size)
    try simp only [pna, pnb, pnc, pnd, pne]
    refine wpH_call 6 (oi := ⟨some 44,.call { callee := .value (.func 46), args := #[.tmp 43], argTypes := #[9] },9,"header.go:63",#[⟨5,.data⟩, ⟨3,.chain⟩],none⟩) rfl (by kernel_rfl) (by rfl) (c2 _) ?_ ?_
    ·(go_simp; try rfl)
    rintro e w' ⟨rfl, hbx⟩
    refine ⟨_, rfl, hS.trans (hbx.mono hS.size), ?_⟩
    replace hS := hS.trans (hbx.mono hS.size)
    try simp only [pna, pnb, pnc, pnd, pne]
    (refine hP 7 ?_ ⟨some 45, .binOp .add 9 (.tmp 41) (.tmp 44) 9, 9, "", #[], none⟩ hS ?_ ?_; rotate_left; focus (intro w; go_simp; try with_reducible rfl))
    try simp only [pna, pnb, pnc, pnd, pne]
    refine wpH_call 10 (oi := ⟨some 48,.call { callee := .value (.func 46), args := #[.tmp 47], argTypes := #[9] },9,"header.go:63",#[⟨9,.data⟩, ⟨6,.chain⟩],none⟩) rfl (by kernel_rfl) (by rfl) (c3 _) ?_ ?_
    ·(go_simp; try rfl)
    rintro e w' ⟨rfl, hbx⟩
    refine ⟨_, rfl, hS.trans (hbx.mono hS.size), ?_⟩
    replace hS := hS.trans (hbx.mono hS.size)
    try simp only [pna, pnb, pnc, pnd, pne]
    (refine hP 11 ?_ ⟨some 49, .binOp .add 9 (.tmp 45) (.tmp 48) 9, 9, "", #[], none⟩ hS ?_ ?_; rotate_left; focus (intro w; go_simp; try with_reducible rfl))
    try simp only [pna, pnb, pnc, pnd, pne]
    refine wpH_call 14 (oi := ⟨some 52,.call { callee := .value (.func 46), args := #[.tmp 51], argTypes := #[9] },9,"header.go:63",#[⟨13,.data⟩, ⟨10,.chain⟩],none⟩) rfl (by kernel_rfl) (by rfl) (c4 _) ?_ ?_
    ·(go_simp; try rfl)
    rintro e w' ⟨rfl, hbx⟩
    refine ⟨_, rfl, hS.trans (hbx.mono hS.size), ?_⟩
    replace hS := hS.trans (hbx.mono hS.size)
    try simp only [pna, pnb, pnc, pnd, pne]
    (refine hP 15 ?_ ⟨some 53, .binOp .add 9 (.tmp 49) (.tmp 52) 9, 9, "", #[], none⟩ hS ?_ ?_; rotate_left; focus (intro w; go_simp; try with_reducible rfl))
    try simp only [pna, pnb, pnc, pnd, pne]
    (refine hP 18 ?_ ⟨some 56, .binOp .add 9 (.tmp 53) (.tmp 55) 9, 9, "", #[], none⟩ hS ?_ ?_; rotate_left; focus (intro w; go_simp; try with_reducible rfl))
    try simp only [pna, pnb, pnc, pnd, pne]
    (refine hP 21 ?_ ⟨some 59, .binOp .add 9 (.tmp 56) (.tmp 58) 9, 9, "", #[], none⟩ hS ?_ ?_; rotate_left; focus (intro w; go_simp; try with_reducible rfl))
    try simp only [pna, pnb, pnc, pnd, pne]
    (refine hP 24 ?_ ⟨some 62, .binOp .add 9 (.tmp 59) (.tmp 61) 9, 9, "", #[], none⟩ hS ?_ ?_; rotate_left; focus (intro w; go_simp; try with_reducible rfl))
    try simp only [pna, pnb, pnc, pnd, pne]
    (refine hP 25 ?_ ⟨some 63, .binOp .add 9 (.tmp 38) (.tmp 62) 9, 9, "", #[], none⟩ hS ?_ ?_; rotate_left; focus (intro w; go_simp; try with_reducible rfl))
    try simp only [pna, pnb, pnc, pnd, pne]
    (refine hP 26 ?_ ⟨some 5, .assign (.tmp 63), 9, "", #[], none⟩ hS ?_ ?_; rotate_left; focus (intro w; go_simp; try with_reducible rfl))
    try simp only [pna, pnb, pnc, pnd, pne]
    refine wpAnyH_done (by kernel_rfl) ?_ _
    have HRM : Hid (R = (N ++ (F1 ++ (T1 ++ (T2 ++ (T3 ++ (tx ++ (me ++ ne))))))) ++ K.flatten) := Lib.hid (by rw [HR.out]; simp only [List.append_assoc])
    generalize N ++ (F1 ++ (T1 ++ (T2 ++ (T3 ++ (tx ++ (me ++ ne)))))) = M at *
    obtain ⟨b1, b2, b3⟩ := id (B.keep hS)
    have hbZ := hb.trans (hS.mono hb.size)
    clear k1 k2 k3 k4 k5 k6 k7 r3 r4 r5 r6 r7 c1 c2 c3 c4 hS hb B HR
    go_wp2_with fail
    go_loopw [5, 67] (fun s5 s67 wr => ∃ i : Nat, s67 = .int .i64 i ∧ i ≤ K.length ∧ s5 = .string ⟨List.toArray (M ++ (K.take i).flatten)⟩ ∧ Below w.heap.size w wr) (fun _ s67 _ => K.length - (intOf s67).toNat)
    case atStart => exact ⟨0, rfl, Nat.zero_le _, by simp, hbZ⟩
    case round =>
     clear b1 b2 b3 hbZ
     obtain ⟨i, rfl, hi, rfl, hb⟩ := hrel
     obtain ⟨wr, hnm⟩ := Below.name hb
     subst hnm
     by_cases hlt : i < K.length
     ·have HLT := Lib.hid hlt
      have hkn := HKN.out
      have i1 : decide ((i : Int) < (K.length : Int)) = true := by simp; omega
      have i0 : 0 ≤ (i : Int) ∧ (i : Int) < (K.length : Int) := by omega
      obtain ⟨g, off, e1, hg, x1⟩ := (HK.out.keep hb).at' i hlt
      subst e1
      have hx32 : (K.getD i []).length = 32 := HKL.out _ (by rw [List.getD_eq_getElem?_getD, List.getElem?_eq_getElem hlt]; exact List.getElem_mem _)
      have hfl := flat_len32 (K.take i) (fun y hy => HKL.out y (List.mem_of_mem_take hy))
      have hpl : (M ++ (K.take i).flatten).length ≤ 1000 := by
       have := HKN.out
       rw [List.length_append, hfl, List.length_take]; omega
      have HP : Hid ((M ++ (K.take i).flatten) ++ K.getD i [] = M ++ (K.take (i + 1)).flatten) := Lib.hid (by rw [flat_takeK K i hlt, List.append_assoc])
      clear hfl hlt
      generalize K.getD i [] = x at *
      generalize M ++ (K.take i).flatten = P at *
      have hcat : ¬ 9223372036854775807 < P.length + x.length := by omega
      go_wp2_with fail
      exact ⟨⟨i + 1, by go_num, by have := HLT.out; omega, by rw [← HP.out], hb⟩, by have := HLT.out; simp [intOf]; omega⟩
     ·have e : i = K.length := by omega
      subst e
      rw [List.take_length, ← HRM.out]
      clear hlt
      go_wp2_with fail
      go_ret2
      exact ⟨rfl, hb⟩
end Go.Proofs.YthkpmlfaddlieaaGreatDoor
namespace Go.Proofs.YthkpmlfaddlieaaGreatDoor
open Go.RowKit
theorem wp_loads {P : Program} {o : Oper} {a : Act} {w : World} {K : Act → World → Prop} {Q : Exit → Act → World → Prop} (u : Value) (hv : (execOp a.eval o).run P w = .ok (.value u) w) (h : K (a.put o.dst u) w) : o.wp P a w K Q := by
 unfold Oper.wp
 rw [hv]
 exact h
theorem wpH_startB {P : Program} {id : Nat} {ops : Array Oper} {Q : Exit → Act → World → Prop} {a : Act} {w : World} (B : Nat) (hm : P.follows .mixedOrders = true)
  (h : Below B w w.drew → wpAnyH P .any ops Q (Below B w) ops.size (Array.replicate ops.size false) a w.drew) : (Code.region id ops true).wp P Q a w :=
 wp_region_held_drew hm (Below.refl _ _).drew h
theorem wpO_op {P : Program} {ops : Array Oper} {Q : Exit → Act → World → Prop} {a : Act} {w : World} {K : Act → World → Prop} {i : Nat} {oi : Oper} (hi : ops[i]? = some oi) (hw : Region.wanted oi (yielded ops a.tmps) = true) (h : oi.wp P a w K Q) : wpOp P ops Q i K a w := by
 unfold wpOp
 simp only [hi, hw, if_true]
 exact .inl h
theorem wpO_call {P : Program} {ops : Array Oper} {Q : Exit → Act → World → Prop} {S : World → Prop} {a : Act} {w : World} {K : Act → World → Prop} {i : Nat} {oi : Oper} (hi : ops[i]? = some oi) (hw : Region.wanted oi (yielded ops a.tmps) = true) {f : FuncId} {args : Array Value} {R : Ending → World → Prop} (hc : Calls P f args w R)
  (hv : (execOp a.eval oi).run P w = .ok (.enter f args) w) (h : ∀ e w', R e w' → ∃ v, e = .returned v ∧ S w' ∧ K (a.put oi.dst v) w') : wpOp P ops Q i (fun a' w' => S w' ∧ K a' w') a w := by
 unfold wpOp
 simp only [hi, hw, if_true]
 refine .inl ?_
 unfold Oper.wp
 rw [hv, Oper.upon_enter]
 refine hc.mono fun e w' hR => ?_
 obtain ⟨v, rfl, h1, h2⟩ := h e w' hR
 exact ⟨h1, h2⟩
def NormQ (R : Act → World → Prop) : Exit → Act → World → Prop
 | .normal, a, w => R a w
 | _, _, _ => False
theorem wp_region_ex {P : Program} {c : Code} {Q : Exit → Act → World → Prop} {a : Act} {w : World} {ι : Type} (f : ι → Act → Act) (F : ι → World → Prop) (h : c.wp P (NormQ fun a' w' => ∃ i, a' = f i a ∧ F i w') a w) (k : ∀ i w', F i w' → Q .normal (f i a) w') : c.wp P Q a w :=
 Code.wp_mono (fun e a' w' hq => by
  cases e
  case normal =>
   obtain ⟨i, ha, hF⟩ : ∃ i, a' = f i a ∧ F i w' := hq
   subst ha
   exact k i w' hF
  all_goals exact absurd hq id) h
theorem wp_allocK {P : Program} {o : Oper} {a : Act} {w : World} {K : Act → World → Prop} {Q : Exit → Act → World → Prop} (t : TypeId) (ho : o.op = .alloc t) (z : Array Value) (hz : ∀ w : World, (execOp a.eval o).run P w = .ok (.value (.pointer (some ⟨w.heap.size, 0, none⟩))) (w.alloc (.cells z t)))
  (h : ∀ k w', w.heap.size ≤ k → Blk w' k z → Below w.heap.size w w' → K (a.put o.dst (.pointer (some ⟨k, 0, none⟩))) w') : o.wp P a w K Q := by
 unfold Oper.wp
 rw [hz w]
 exact h _ _ (Nat.le_refl _) (Blk.new _ _ _) (Below.allocS (Below.refl _ _) _)
theorem wp_newK {P : Program} {o : Oper} {a : Act} {w : World} {K : Act → World → Prop} {Q : Exit → Act → World → Prop} (t : TypeId) (z : Array Value) (u : Nat → Value) (hz : ∀ w : World, (execOp a.eval o).run P w = .ok (.value (u w.heap.size)) (w.alloc (.cells z t)))
  (h : ∀ k w', w.heap.size ≤ k → w'.heap[k]? = some (.cells z t) → k < w'.heap.size → Below w.heap.size w w' → K (a.put o.dst (u k)) w') : o.wp P a w K Q := by
 unfold Oper.wp
 rw [hz w]
 exact h _ _ (Nat.le_refl _) (heap_alloc_new w _) (by simp) (Below.allocS (Below.refl _ _) _)
theorem Blk.of_heap {w : World} {k : Nat} {z : Array Value} {t : TypeId} (hh : w.heap[k]? = some (.cells z t)) (hk : k < w.heap.size) : Blk w k z :=
 ⟨fun o => by simp [World.cell?, hh], fun o => by simp [World.frozen?, hh], hk⟩
end Go.Proofs.YthkpmlfaddlieaaGreatDoor
namespace Go.Proofs.YthkpmlfaddlieaaGreatDoor
open Go.RowKit Go.Shelf Pl
theorem row_head : RowT Tryz.prog 48 11 := RowT.mk' Tryz.underlying48 rfl (by kernel_rfl)
theorem results_cell_tmp2 {P : Program} {fn : Func} {a b : Nat} {t : TypeId} (h : fn.results = #[.cell a t, .tmp b]) (tmps : Array Value) (w : World) (p : Addr) (v : Value) (hp : tmps.getD a undef = .pointer (some p)) (hl : (loadVar t p).run P w = .ok v w) :
  (results fn tmps).run P w = .ok (.tuple #[v, tmps.getD b undef]) w := by
 unfold results
 rw [h]
 rw [Array.getD_eq_getD_getElem?] at hp
 simp [hp, asAddr, hl, Sem.run_bind]
theorem Blk.belowB {w w' : World} {B b : Nat} {cs : Array Value} (h : Blk w b cs) (hb : Below B w w') (hp : b < B) : Blk w' b cs := h.of_block (hb.block b hp) hb.size
end Go.Proofs.YthkpmlfaddlieaaGreatDoor
namespace Go.Proofs.YthkpmlfaddlieaaGreatDoor
open Go.RowKit Pl
theorem infoMem : (Tryz.prog.info? 77).map (fun i => (i.zero, i.size, i.bytes)) = some (some (.agg #[.string ⟨#[]⟩, .int .i64 0]), 2, 24) := by kernel_rfl
def mv : List (Bs × Int) → List Value
 | [] => []
 | x :: r => .string ⟨List.toArray x.1⟩ :: .int .i64 x.2 :: mv r
theorem mv_len (l : List (Bs × Int)) : (mv l).length = l.length * 2 := by
 induction l with
 | nil => rfl
 | cons x r ih => simp only [mv, List.length_cons, ih]; omega
theorem mv_at : ∀ (l : List (Bs × Int)) (i : Nat), i < l.length → (mv l)[i * 2]? = some (.string ⟨List.toArray ((l.getD i ([], 0)).1)⟩) ∧ (mv l)[i * 2 + 1]? = some (.int .i64 ((l.getD i ([], 0)).2))
 | x :: r, 0, _ => ⟨rfl, rfl⟩
 | x :: r, i + 1, hi => by
  have h := mv_at r i (by simpa using hi)
  rw [show (i + 1) * 2 = i * 2 + 1 + 1 from by omega]
  simpa [mv] using h
theorem mone : ∀ (l : List (Bs × Int)), ∀ u ∈ mv l, u.oneCell' = true
 | [], u, h => by simp [mv] at h
 | x :: r, u, h => by
  simp only [mv, List.mem_cons] at h
  rcases h with rfl | rfl | h
  ·rfl
  ·rfl
  ·exact mone r u h
def MRow (w : World) (base : Nat) (v : Value) (l : List (Bs × Int)) : Prop := w.ownsRow base 77 2 v l.length (mv l)
theorem MRow.nil (w : World) (base : Nat) : MRow w base (.slice none 0 0) [] := ⟨rfl, .inl ⟨rfl, rfl⟩⟩
theorem MRow.cells {w : World} {base : Nat} {v : Value} {l : List (Bs × Int)} (h : MRow w base v l) :
  (v = .slice none 0 0 ∧ l = []) ∨ ∃ g cap, v = .slice (some ⟨g, 0, none⟩) l.length cap ∧ base ≤ g ∧ g < w.heap.size ∧ l.length ≤ cap ∧ cap ≤ maxLen ∧ MSrc w g 0 l ∧ ∀ o, w.frozen? ⟨g, o, none⟩ = false := by
 rcases h.2 with ⟨h1, h2⟩ | ⟨g, cap, cur, hv, hb, hg, hn, hm, hc, ht⟩
 ·exact .inl ⟨h1, List.length_eq_zero_iff.1 h2⟩
 ·refine .inr ⟨g, cap, hv, hb, ?_, hn, hm, fun i hi => ?_, fun o => ?_⟩
  ·rcases Nat.lt_or_ge g w.heap.size with hlt | hge
   ·exact hlt
   ·rw [Array.getElem?_eq_none hge] at hg; cases hg
  ·have h1 : ∀ j, j < l.length * 2 → w.cell? ⟨g, 0 + j, none⟩ = (mv l)[j]? := by
    intro j hj
    rw [← ht, List.getElem?_take, if_pos hj]
    simp [World.cell?, hg]
   obtain ⟨h2, h3⟩ := mv_at l i hi
   exact ⟨(h1 (i * 2) (by omega)).trans h2, (h1 (i * 2 + 1) (by omega)).trans h3⟩
  ·simp [World.frozen?, hg]
theorem MRow.form {w : World} {base : Nat} {v : Value} {l : List (Bs × Int)} (h : MRow w base v l) : ∃ (a : Option Addr) (cap : Nat), v = .slice a l.length cap := by
 rcases h.cells with ⟨rfl, rfl⟩ | ⟨g, cap, rfl, _⟩
 ·exact ⟨none, 0, rfl⟩
 ·exact ⟨_, cap, rfl⟩
theorem MRow.own {w : World} {base : Nat} {v : Value} {l : List (Bs × Int)} (h : MRow w base v l) : ∀ k, v.ownBlock = some k → base ≤ k := by
 intro k hk
 rcases h.cells with ⟨rfl, _⟩ | ⟨g, cap, rfl, hb, _⟩
 ·cases hk
 ·cases hk; exact hb
theorem MRow.ms {w : World} {base : Nat} {v : Value} {l : List (Bs × Int)} (h : MRow w base v l) : MS w v l := by
 rcases h.cells with ⟨rfl, rfl⟩ | ⟨g, cap, h1, h2, h3, h4, h5, h6, h7⟩
 ·exact ⟨none, 0, rfl, Nat.le_refl _, by unfold maxLen; omega, fun h => absurd rfl h⟩
 ·exact ⟨_, cap, h1, h4, h5, fun _ => ⟨g, 0, rfl, h3, h6⟩⟩
theorem MRow.kept {w w' : World} {base : Nat} {v : Value} {l : List (Bs × Int)} (h : MRow w base v l) (hb : ∀ k, v.ownBlock = some k → w'.heap[k]? = w.heap[k]?) : MRow w' base v l := by
 refine ⟨h.1, h.2.imp id ?_⟩
 rintro ⟨g, cap, cur, hv, h1, h2, h3⟩
 subst hv
 exact ⟨g, cap, cur, rfl, h1, (hb g rfl).trans h2, h3⟩
theorem MRow.keep {W w : World} {b : Nat} {v : Value} {l : List (Bs × Int)} (h : MRow W b v l) (hb : Below W.heap.size W w) : MRow w b v l := by
 refine h.kept (fun k hk => hb.block k ?_)
 rcases h.cells with ⟨rfl, _⟩ | ⟨g, cap, rfl, _, hg, _⟩
 ·cases hk
 ·cases hk; exact hg
theorem msrc_news {w : World} {g o : Nat} {l : List (Bs × Int)} (h : MSrc w g o l) : ∀ j u, (mv l)[j]? = some u → w.cell? ((⟨g, o, none⟩ : Addr).add j) = some u := by
 intro j u hj
 have hjl : j < l.length * 2 := by
  rcases Nat.lt_or_ge j (l.length * 2) with hlt | hge
  ·exact hlt
  ·rw [List.getElem?_eq_none (by rw [mv_len]; exact hge)] at hj; cases hj
 have hadd : (⟨g, o, none⟩ : Addr).add j = ⟨g, o + j, none⟩ := by unfold Addr.add; split <;> simp_all
 rw [hadd]
 obtain ⟨i, hi | hi⟩ : ∃ i, j = i * 2 ∨ j = i * 2 + 1 := ⟨j / 2, by omega⟩
 ·subst hi
  exact (h i (by omega)).1.trans (((mv_at l i (by omega)).1).symm.trans hj)
 ·subst hi
  have := (h i (by omega)).2
  rw [Nat.add_assoc] at this
  exact this.trans (((mv_at l i (by omega)).2).symm.trans hj)
end Go.Proofs.YthkpmlfaddlieaaGreatDoor
namespace Go.Proofs.YthkpmlfaddlieaaGreatDoor
open Go.RowKit Pl
namespace Pl
def memsB : List (Bs × Int) → Bs
 | [] => []
 | (n, p) :: r => text n ++ num p.toNat ++ memsB r
def encM (l : List (Bs × Int)) : Bs := num l.length ++ memsB l
def encMR (l : List (Bs × Int)) : Bs × Int := if chkM l then (encM l, 0) else ([], 50)
theorem memsB_app (a : List (Bs × Int)) (x : Bs × Int) : memsB (a ++ [x]) = memsB a ++ (text x.1 ++ num x.2.toNat) := by
 induction a with
 | nil => simp [memsB]
 | cons y r ih => simp [memsB, ih, List.append_assoc]
theorem memsB_len (l : List (Bs × Int)) (h : ∀ i, i < l.length → (l.getD i ([], 0)).1.length ≤ 6) : ∀ k, k ≤ l.length → (memsB (l.take k)).length ≤ 24 * k
 | 0, _ => by simp [memsB]
 | k + 1, hk => by
  have h1 := memsB_len l h k (by omega)
  have h2 := h k (by omega)
  rw [take_getD l k (by omega), memsB_app]
  have h3 := num_len (l.getD k ([], 0)).2.toNat
  have h4 := num_len (l.getD k ([], 0)).1.length
  simp only [List.length_append, text]
  omega
end Pl
theorem mencode_any (v : Value) (l : List (Bs × Int)) (w : World) (hv : MS w v l) :
  Calls Tryz.prog 63 #[v] w fun e w' => e = .returned (.tuple #[.string ⟨List.toArray ((encMR l).1)⟩, .int .i64 ((encMR l).2)]) ∧ Below w.heap.size w w' := by
 generalize hr : encMR l = r
 have HR := Lib.hid hr
 clear hr
 obtain ⟨a, c, rfl⟩ := hv.form
 have hm := hv.small
 have hchk := mcheck_any _ l w hv
 have HV := Lib.hid hv
 clear hv
 cases hc : chkM l
 ·rw [hc] at hchk
  have HC := Lib.hid hchk
  have HR2 : Hid (([], 50) = r) := Lib.hid (by rw [← HR.out]; simp [encMR, hc])
  clear hchk hc HR HV
  go_enter Tryz.func63, Tryz.ntmps63
  go_wp2_with fail
  refine HC.out.mono ?_
  rintro e w1 ⟨rfl, hb⟩
  unfold setI
  go_wp2_with fail
  all_goals (go_ret2; refine ⟨?_, hb⟩; rw [← HR2.out]; rfl)
 ·rw [hc] at hchk
  have HC := Lib.hid hchk
  have HR2 : Hid ((encM l, 0) = r) := Lib.hid (by rw [← HR.out]; simp [encMR, hc])
  simp only [chkM, Bool.and_eq_true, decide_eq_true_eq] at hc
  have h7 := hc.1.2
  have HO := Lib.hid (okM_at l [] hc.2)
  have HB := Lib.hid (memsB_len l (fun i hi => (HO.out i hi).1))
  clear hchk hc HR
  go_enter Tryz.func63, Tryz.ntmps63
  go_wp2_with fail
  refine HC.out.mono ?_
  rintro e w1 ⟨rfl, hb⟩
  unfold setI
  go_wp2_with fail
  refine (cNum_any l.length (by omega) _).mono ?_
  rintro e w2 ⟨rfl, hb2⟩
  have hb3 := hb.trans (hb2.mono hb.size)
  go_wp2_with fail
  go_loopw [5, 24] (fun s5 s24 wr => ∃ i : Nat, i ≤ l.length ∧ s24 = .int .i64 i ∧ s5 = .string ⟨List.toArray (num l.length ++ memsB (l.take i))⟩ ∧ Below w.heap.size w wr) (fun _ s24 _ => l.length - (intOf s24).toNat)
  case atStart => exact ⟨0, by omega, rfl, by simp [memsB], hb3⟩
  case round =>
   obtain ⟨i, hi, rfl, rfl, hb⟩ := hrel
   obtain ⟨wq, h⟩ := Below.nm hb
   subst h
   by_cases hlt : i < l.length
   ·obtain ⟨g, off, rfl, hg, c1, c2⟩ := (HV.out.keep hb).at i hlt
    obtain ⟨o1, o2, o3⟩ := HO.out i hlt
    have hB := HB.out i (by omega)
    have hnx : num l.length ++ memsB (l.take (i + 1)) = num l.length ++ memsB (l.take i) ++ (text (l.getD i ([], 0)).1 ++ num (l.getD i ([], 0)).2.toNat) := by
     rw [take_getD l i hlt, memsB_app, List.append_assoc]
    have hn9 := num_len l.length
    have hs9 : (num l.length ++ memsB (l.take i)).length ≤ 200 := by rw [List.length_append]; omega
    generalize hx : l.getD i ([], 0) = x at *
    obtain ⟨n, p⟩ := x
    simp only at c1 c2 hnx o1 o2 o3
    obtain ⟨m, rfl⟩ : ∃ m : Nat, p = m := ⟨p.toNat, by omega⟩
    rw [Int.toNat_natCast] at hnx
    generalize num l.length ++ memsB (l.take i) = s at *
    have hm9 := num_len m
    have ht9 : (text n).length ≤ 15 := by have := num_len n.length; simp only [text, List.length_append]; omega
    have hcat : ¬ 9223372036854775807 < (text n).length + (num m).length := by omega
    have hcat2 : ¬ 9223372036854775807 < s.length + ((text n).length + (num m).length) := by omega
    clear hx hB HB
    go_wp2_with fail
    refine (cNum_any m (by omega) _).mono ?_
    rintro e w4 ⟨rfl, hb4⟩
    have c1' : w4.cell? ⟨wq.heap.size, 0, none⟩ = some (.string ⟨n.toArray⟩) := (hb4.cell (p := ⟨wq.heap.size, 0, none⟩) (by simp)).trans (by simp)
    have hb5 := (Below.allocS hb (.cells #[.string ⟨n.toArray⟩, .int .i64 m] 77)).trans (hb4.mono (by simp; have := hb.size; omega))
    go_wp2_with fail
    refine (ctext_any n (by omega) _).mono ?_
    rintro e w5 ⟨rfl, hb6⟩
    have hb7 := hb5.trans (hb6.mono hb5.size)
    go_wp2_with fail
    exact ⟨⟨i + 1, by omega, by go_num, by rw [hnx], hb7⟩, by simp [intOf]; omega⟩
   ·obtain rfl : i = l.length := by omega
    go_wp2_with fail
    all_goals (go_ret2; refine ⟨?_, hb⟩; rw [← HR2.out]; simp [encM])
theorem encM_len (l : List (Bs × Int)) (hc : chkM l = true) : (encM l).length ≤ 200 := by
 simp only [chkM, Bool.and_eq_true, decide_eq_true_eq] at hc
 have h7 := hc.1.2
 have h := memsB_len l (fun i hi => (okM_at l [] hc.2 i hi).1) l.length (by omega)
 rw [List.take_length] at h
 have hn9 := num_len l.length
 simp only [encM, List.length_append]
 omega
def dgM (l : List (Bs × Int)) : Bs := if chkM l then tagP 4 (encM l) else []
theorem mdigest_any (v : Value) (l : List (Bs × Int)) (w : World) (hv : MS w v l) (hk : KT w) :
  Calls Tryz.prog 25 #[v] w fun e w' => e = .returned (.string ⟨List.toArray (dgM l)⟩) ∧ Below w.heap.size w w' := by
 generalize hd : dgM l = d
 have HD := Lib.hid hd
 clear hd
 obtain ⟨a, c, rfl⟩ := hv.form
 have hm := hv.small
 have hen := mencode_any _ l w hv
 cases hc : chkM l
 ·rw [show encMR l = ([], 50) from by simp [encMR, hc]] at hen
  have HZ : Hid ([] = d) := Lib.hid (by rw [← HD.out]; simp [dgM, hc])
  have HE := Lib.hid hen
  clear hen hv HD hc
  go_enter Tryz.func25, Tryz.ntmps25
  go_wp2_with fail
  refine HE.out.mono ?_
  rintro e w1 ⟨rfl, hb⟩
  go_wp2_with fail
  all_goals (go_ret; refine ⟨?_, hb⟩; rw [← HZ.out]; rfl)
 ·rw [show encMR l = (encM l, 0) from by simp [encMR, hc]] at hen
  have HZ : Hid (tagP 4 (encM l) = d) := Lib.hid (by rw [← HD.out]; simp [dgM, hc])
  have hl := encM_len l hc
  have HE := Lib.hid hen
  clear hen hv HD hc
  generalize encM l = t at *
  go_enter Tryz.func25, Tryz.ntmps25
  go_wp2_with fail
  refine HE.out.mono ?_
  rintro e w1 ⟨rfl, hb⟩
  go_wp2_with fail
  refine (digsum_ok 4 (by omega) (by omega) t (by omega) _ (hk.keep hb)).mono ?_
  rintro e w2 ⟨rfl, hb2⟩
  go_wp2_with fail
  all_goals (go_ret; refine ⟨?_, hb.trans (hb2.mono hb.size)⟩; rw [← HZ.out]; rfl)
end Go.Proofs.YthkpmlfaddlieaaGreatDoor
namespace Go.Proofs.YthkpmlfaddlieaaGreatDoor
open Go.RowKit Pl
theorem MRow.mod {w w' : World} {b p : Nat} {v : Value} {l : List (Bs × Int)} (h : MRow w b v l) (hm : Mod [p] w w') (hp : p < b) : MRow w' b v l := by
 refine h.kept (fun k hk => hm.block k ?_ ?_)
 ·rcases h.cells with ⟨rfl, _⟩ | ⟨g, cap, rfl, _, hg, _⟩
  ·cases hk
  ·cases hk; exact hg
 ·have := h.own k hk
  simp; omega
theorem MRow.low {w : World} {b c : Nat} {v : Value} {l : List (Bs × Int)} (h : MRow w b v l) (hc : c ≤ b) : MRow w c v l := by
 refine ⟨h.1, h.2.imp id ?_⟩
 rintro ⟨g, cap, cur, hv, h1, h2⟩
 exact ⟨g, cap, cur, hv, Nat.le_trans hc h1, h2⟩
end Go.Proofs.YthkpmlfaddlieaaGreatDoor
namespace Go.Proofs.YthkpmlfaddlieaaGreatDoor
open Go.RowKit Pl
theorem drewN_two (w : World) (q n : Nat) : (w.drewN q).drewN n = w.drewN (q + n) := by
 first | exact World.drewN_drewN _ _ _ | simp
theorem leS_nil (z : Bs) : leS [] z = true := by
 cases z <;> simp [leS, Op.bytesLess]
theorem leS_zero (n : Bs) (h : n ≠ []) : leS n [] = false := by
 cases n with
 | nil => exact absurd rfl h
 | cons a r => simp [leS, Op.bytesLess]
theorem rmcheck_any (v : Value) (l : List (Bs × Int)) (w : World) (hv : MS w v l) :
  Calls Tryz.prog 97 #[v] w fun e w' => e = .returned (.int .i64 (setI (chkM l))) ∧ ∃ n, w' = w.drewN n := by
 generalize hr : setI (chkM l) = r
 have HR := Lib.hid hr
 clear hr
 obtain ⟨a, c, rfl⟩ := hv.form
 have hm := hv.small
 have HV := Lib.hid hv
 by_cases h0 : l.length = 0
 ·rw [h0]
  clear HV hv
  go_enter Tryz.func97, Tryz.ntmps97
  go_wp2_with fail
  all_goals (go_ret; refine ⟨?_, 0, rfl⟩; rw [← HR.out]; simp [chkM, h0, setI])
 ·by_cases h7 : 7 < l.length
  ·have hd : decide ((7 : Int) < (l.length : Int)) = true := by simp; omega
   have hd0 : decide ((l.length : Int) < 1) = false := by simp; omega
   clear HV hv
   go_enter Tryz.func97, Tryz.ntmps97
   go_wp2_with fail
   all_goals (go_ret; refine ⟨?_, 0, rfl⟩; rw [← HR.out]; have : ¬ l.length ≤ 7 := (by omega); simp [chkM, this, setI])
  ·have hd : decide ((7 : Int) < (l.length : Int)) = false := by simp; omega
   have hd0 : decide ((l.length : Int) < 1) = false := by simp; omega
   have HR2 : Hid (setI (okM [] l) = r) := Lib.hid (by rw [← HR.out]; have : l.length ≤ 7 := (by omega); simp [chkM, this, h0])
   clear HR hv h0
   go_enter Tryz.func97, Tryz.ntmps97
   go_wp2_with fail
   go_loopw [3] (fun s3 wr => ∃ i : Nat, i ≤ l.length ∧ s3 = .int .i64 i ∧ Hid (setI (okM (lastN l i) (l.drop i)) = r) ∧ ∃ q, wr = w.drewN q) (fun s3 _ => l.length - (intOf s3).toNat)
   case atStart => exact ⟨0, by omega, rfl, HR2, 0, rfl⟩
   case round =>
    obtain ⟨i, hi, rfl, HI, q, rfl⟩ := hrel
    by_cases hlt : i < l.length
    ·have hlt' : (i : Int) < (l.length : Int) := by omega
     obtain ⟨g, off, rfl, hg, c1, c2⟩ := HV.out.at i hlt
     have hi2 := HI.out
     rw [drop_getD l i hlt] at hi2
     have hnx : lastN l (i + 1) = (l.getD i ([], 0)).1 := rfl
     generalize hx : l.getD i ([], 0) = x at *
     obtain ⟨n, p⟩ := x
     simp only at c1 c2 hnx
     unfold okM at hi2
     by_cases hne : n = []
     ·subst hne
      rw [leS_nil] at hi2
      have HI2 : Hid (50 = r) := Lib.hid (by rw [← hi2]; simp [setI])
      clear HI hi2 HR2
      go_wp2_with fail
      all_goals (go_ret; refine ⟨?_, q, rfl⟩; rw [← HI2.out]; rfl)
     ·have hn1 : 0 < n.length := List.length_pos_iff.2 hne
      have hn2 : decide ((n.length : Int) < 1) = false := by simp; omega
      have hn3 : ¬ ((n.length : Int) < 1) := by omega
      cases hb : decide ((6 : Int) < (n.length : Int)) || decide (p < 1) || decide (1000 < p)
      ·simp only [Bool.or_eq_false_iff] at hb
       obtain ⟨⟨e1, e2⟩, e3⟩ := hb
       rw [e1, e2, e3] at hi2
       by_cases hi0 : i = 0
       ·subst hi0
        have hz : lastN l 0 = [] := rfl
        rw [hz, leS_zero n hne] at hi2
        have HI2 : Hid (setI (okM n (l.drop 1)) = r) := Lib.hid (by rw [← hi2]; simp)
        clear HI hi2 HR2 hz
        rw [Nat.zero_mul, Nat.add_zero] at c1 c2
        go_wp2_with fail
        go_quiet (fail)
        go_wp2_with fail
        exact ⟨⟨1, by omega, by go_num, by rw [hnx]; exact HI2, _, rfl⟩, by simp [intOf]; omega⟩
       ·obtain ⟨j, hj⟩ : ∃ j, i = j + 1 := ⟨i - 1, by omega⟩
        obtain ⟨g', off', hgo, hg', c3, c4⟩ := HV.out.at j (by omega)
        injection hgo with hgo
        injection hgo with hgo1 hgo2
        subst hgo1 hgo2
        have hz : lastN l i = (l.getD j ([], 0)).1 := by rw [hj]; rfl
        rw [← hz] at c3
        have q1 : IntKind.i64.wrap ((i : Int) - 1) = (j : Int) := by rw [show (i : Int) - 1 = (j : Int) from by omega]; exact IntWalk.i64_in _ (by omega)
        have q2 : (j : Int) < (l.length : Int) := by omega
        have q3 : decide ((0 : Int) < (i : Int)) = true := by rw [decide_eq_true_iff]; omega
        have q4 : (0 : Int) < (i : Int) := by omega
        have q5 : 0 < i := by omega
        have q6 : ¬ i = 0 := hi0
        generalize lastN l i = z at *
        clear c4 HI HR2 hj hz
        cases hle : leS n z
        ·rw [hle] at hi2
         have HI2 : Hid (setI (okM n (l.drop (i + 1))) = r) := Lib.hid (by rw [← hi2]; simp)
         clear hi2
         go_wp2_with fail
         go_quiet (fail)
         go_wp2_with fail
         exact ⟨⟨i + 1, by omega, by go_num, by rw [hnx]; exact HI2, _, rfl⟩, by simp [intOf]; omega⟩
        ·rw [hle] at hi2
         have HI2 : Hid (50 = r) := Lib.hid (by rw [← hi2]; simp [setI])
         clear hi2
         go_wp2_with fail
         go_quiet (fail)
         go_wp2_with fail
         all_goals (go_ret; refine ⟨?_, _, drewN_two _ _ _⟩; rw [← HI2.out]; rfl)
      ·have HI2 : Hid (50 = r) := Lib.hid (by
        rw [← hi2]
        simp only [Bool.or_eq_true] at hb
        rcases hb with (hb | hb) | hb <;> rw [hb] <;> simp [setI])
       clear hi2 HI HR2
       go_wp2_with fail
       all_goals (go_ret; refine ⟨?_, _, rfl⟩; rw [← HI2.out]; rfl)
    ·obtain rfl : i = l.length := by omega
     go_wp2_with fail
     all_goals (go_ret; refine ⟨?_, q, rfl⟩; rw [← HI.out]; simp [okM, setI])
theorem rmencode_any (v : Value) (l : List (Bs × Int)) (w : World) (hv : MS w v l) :
  Calls Tryz.prog 99 #[v] w fun e w' => e = .returned (.tuple #[.string ⟨List.toArray ((encMR l).1)⟩, .int .i64 ((encMR l).2)]) ∧ Below w.heap.size w w' := by
 generalize hr : encMR l = r
 have HR := Lib.hid hr
 clear hr
 obtain ⟨a, c, rfl⟩ := hv.form
 have hm := hv.small
 have hchk := rmcheck_any _ l w hv
 have HV := Lib.hid hv
 clear hv
 cases hc : chkM l
 ·rw [hc] at hchk
  have HC := Lib.hid hchk
  have HR2 : Hid (([], 50) = r) := Lib.hid (by rw [← HR.out]; simp [encMR, hc])
  clear hchk hc HR HV
  go_enter Tryz.func99, Tryz.ntmps99
  go_wp2_with fail
  refine HC.out.mono ?_
  rintro e w1 ⟨rfl, q, rfl⟩
  unfold setI
  go_wp2_with fail
  all_goals (go_ret2; refine ⟨?_, below_drewN (Below.refl _ _) _⟩; rw [← HR2.out]; rfl)
 ·rw [hc] at hchk
  have HC := Lib.hid hchk
  have HR2 : Hid ((encM l, 0) = r) := Lib.hid (by rw [← HR.out]; simp [encMR, hc])
  simp only [chkM, Bool.and_eq_true, decide_eq_true_eq] at hc
  have h7 := hc.1.2
  have HO := Lib.hid (okM_at l [] hc.2)
  have HB := Lib.hid (memsB_len l (fun i hi => (HO.out i hi).1))
  clear hchk hc HR
  go_enter Tryz.func99, Tryz.ntmps99
  go_wp2_with fail
  refine HC.out.mono ?_
  rintro e w1 ⟨rfl, q, rfl⟩
  unfold setI
  go_wp2_with fail
  refine (rNumber_any l.length (by omega) _).mono ?_
  rintro e w2 ⟨rfl, hb2⟩
  have hb3 : Below w.heap.size w w2 := (below_drewN (Below.refl _ _) _).trans (hb2.mono (by simp))
  go_wp2_with fail
  go_loopw [4, 5] (fun s4 s5 wr => ∃ i : Nat, i ≤ l.length ∧ s5 = .int .i64 i ∧ s4 = .string ⟨List.toArray (num l.length ++ memsB (l.take i))⟩ ∧ Below w.heap.size w wr) (fun _ s5 _ => l.length - (intOf s5).toNat)
  case atStart => exact ⟨0, by omega, rfl, by simp [memsB], hb3⟩
  case round =>
   obtain ⟨i, hi, rfl, rfl, hb⟩ := hrel
   obtain ⟨wq, h⟩ := Below.nm hb
   subst h
   by_cases hlt : i < l.length
   ·obtain ⟨g, off, rfl, hg, c1, c2⟩ := (HV.out.keep hb).at i hlt
    have hlt' : (i : Int) < (l.length : Int) := by omega
    obtain ⟨o1, o2, o3⟩ := HO.out i hlt
    have hB := HB.out i (by omega)
    have hnx : num l.length ++ memsB (l.take (i + 1)) = num l.length ++ memsB (l.take i) ++ (text (l.getD i ([], 0)).1 ++ num (l.getD i ([], 0)).2.toNat) := by
     rw [take_getD l i hlt, memsB_app, List.append_assoc]
    have hn9 := num_len l.length
    have hs9 : (num l.length ++ memsB (l.take i)).length ≤ 200 := by rw [List.length_append]; omega
    generalize hx : l.getD i ([], 0) = x at *
    obtain ⟨n, p⟩ := x
    simp only at c1 c2 hnx o1 o2 o3
    obtain ⟨m, rfl⟩ : ∃ m : Nat, p = m := ⟨p.toNat, by omega⟩
    rw [Int.toNat_natCast] at hnx
    generalize num l.length ++ memsB (l.take i) = s at *
    have hm9 := num_len m
    have ht9 : (text n).length ≤ 15 := by have := num_len n.length; simp only [text, List.length_append]; omega
    have hcat : ¬ 9223372036854775807 < s.length + (text n).length := by omega
    have hcat2 : ¬ 9223372036854775807 < s.length + (text n).length + (num m).length := by omega
    clear hx hB HB
    go_wp2_with fail
    refine wpH_start (by kernel_rfl) (fun hS => ?_)
    (refine hP 0 ?_ ⟨some 18, .move (.tmp 4), 9, "", #[], none⟩ hS ?_ ?_; rotate_left; focus (intro w; go_simp; try with_reducible rfl))
    try simp only [pna, pnb, pnc, pnd, pne]
    (refine hP 1 ?_ ⟨some 19, .move (.tmp 0), 23, "", #[], none⟩ hS ?_ ?_; rotate_left; focus (intro w; go_simp; try with_reducible rfl))
    try simp only [pna, pnb, pnc, pnd, pne]
    (refine hP 2 ?_ ⟨some 20, .move (.tmp 5), 3, "", #[], none⟩ hS ?_ ?_; rotate_left; focus (intro w; go_simp; try with_reducible rfl))
    try simp only [pna, pnb, pnc, pnd, pne]
    (refine hP 3 ?_ ⟨some 21, .indexAddr 23 (.tmp 19) (.tmp 20), 0, "", #[], none⟩ hS ?_ ?_; rotate_left; focus (intro w; go_simp; try with_reducible rfl))
    try simp only [pna, pnb, pnc, pnd, pne]
    (refine hP 4 ?_ ⟨some 22, .fieldAddr 77 (.tmp 21) 0, 0, "", #[], none⟩ hS ?_ ?_; rotate_left; focus (intro w; go_simp; try with_reducible rfl))
    try simp only [pna, pnb, pnc, pnd, pne]
    refine wpH_load 5 (.string ⟨n.toArray⟩) (oi := ⟨some 23,.load 9 (.tmp 22),9,"ref.go:119",#[⟨4,.data⟩],none⟩) rfl (by kernel_rfl) (by kernel_rfl) (by kernel_rfl) (by rfl) hS (fun _ _ _ h => h) (fun w hb => (by have c := (hb.cell (p := ⟨g, off + i * 2, none⟩) hg).trans c1; go_simp; try rfl)) ?_
    try simp only [pna, pnb, pnc, pnd, pne]
    (refine hP 8 ?_ ⟨some 26, .move (.tmp 0), 23, "", #[], none⟩ hS ?_ ?_; rotate_left; focus (intro w; go_simp; try with_reducible rfl))
    try simp only [pna, pnb, pnc, pnd, pne]
    (refine hP 9 ?_ ⟨some 27, .move (.tmp 5), 3, "", #[], none⟩ hS ?_ ?_; rotate_left; focus (intro w; go_simp; try with_reducible rfl))
    try simp only [pna, pnb, pnc, pnd, pne]
    (refine hP 10 ?_ ⟨some 28, .indexAddr 23 (.tmp 26) (.tmp 27), 0, "", #[], none⟩ hS ?_ ?_; rotate_left; focus (intro w; go_simp; try with_reducible rfl))
    try simp only [pna, pnb, pnc, pnd, pne]
    (refine hP 11 ?_ ⟨some 29, .fieldAddr 77 (.tmp 28) 1, 0, "", #[], none⟩ hS ?_ ?_; rotate_left; focus (intro w; go_simp; try with_reducible rfl))
    try simp only [pna, pnb, pnc, pnd, pne]
    refine wpH_load 12 (.int .i64 m) (oi := ⟨some 30,.load 3 (.tmp 29),3,"ref.go:119",#[⟨11,.data⟩],none⟩) rfl (by kernel_rfl) (by kernel_rfl) (by kernel_rfl) (by rfl) hS (fun _ _ _ h => h) (fun w hb => (by have c := (hb.cell (p := ⟨g, off + i * 2 + 1, none⟩) hg).trans c2; go_simp; try rfl)) ?_
    try simp only [pna, pnb, pnc, pnd, pne]
    refine wpH_call 6 (oi := ⟨some 24,.call { callee := .value (.func 106), args := #[.tmp 23], argTypes := #[9] },9,"ref.go:119",#[⟨5,.data⟩],none⟩) rfl (by kernel_rfl) (by rfl) (rText_any n (by omega) _) ?_ ?_
    ·(go_simp; try rfl)
    rintro e w' ⟨rfl, hbx⟩
    refine ⟨_, rfl, hS.trans (hbx.mono hS.size), ?_⟩
    replace hS := hS.trans (hbx.mono hS.size)
    try simp only [pna, pnb, pnc, pnd, pne]
    (refine hP 7 ?_ ⟨some 25, .binOp .add 9 (.tmp 18) (.tmp 24) 9, 9, "", #[], none⟩ hS ?_ ?_; rotate_left; focus (intro w; go_simp; try with_reducible rfl))
    try simp only [pna, pnb, pnc, pnd, pne]
    refine wpH_call 13 (oi := ⟨some 31,.call { callee := .value (.func 104), args := #[.tmp 30], argTypes := #[3] },9,"ref.go:119",#[⟨12,.data⟩, ⟨6,.chain⟩],none⟩) rfl (by kernel_rfl) (by rfl) (rNumber_any m (by omega) _) ?_ ?_
    ·(go_simp; try rfl)
    rintro e w' ⟨rfl, hbx⟩
    refine ⟨_, rfl, hS.trans (hbx.mono hS.size), ?_⟩
    replace hS := hS.trans (hbx.mono hS.size)
    try simp only [pna, pnb, pnc, pnd, pne]
    (refine hP 14 ?_ ⟨some 32, .binOp .add 9 (.tmp 25) (.tmp 31) 9, 9, "", #[], none⟩ hS ?_ ?_; rotate_left; focus (intro w; go_simp; try with_reducible rfl))
    try simp only [pna, pnb, pnc, pnd, pne]
    (refine hP 15 ?_ ⟨some 4, .assign (.tmp 32), 9, "", #[], none⟩ hS ?_ ?_; rotate_left; focus (intro w; go_simp; try with_reducible rfl))
    try simp only [pna, pnb, pnc, pnd, pne]
    refine wpAnyH_done (by kernel_rfl) ?_ _
    go_wp2_with fail
    exact ⟨⟨i + 1, by omega, by go_num, by rw [hnx], hb.trans (hS.mono hb.size)⟩, by simp [intOf]; omega⟩
   ·obtain rfl : i = l.length := by omega
    go_wp2_with fail
    all_goals (go_ret2; refine ⟨?_, hb⟩; rw [← HR2.out]; simp [encM])
theorem rmdigest_any (v : Value) (l : List (Bs × Int)) (w : World) (hv : MS w v l) :
  Calls Tryz.prog 66 #[v] w fun e w' => e = .returned (.string ⟨List.toArray (dgM l)⟩) ∧ Below w.heap.size w w' := by
 generalize hd : dgM l = d
 have HD := Lib.hid hd
 clear hd
 obtain ⟨a, c, rfl⟩ := hv.form
 have hm := hv.small
 have hen := rmencode_any _ l w hv
 cases hc : chkM l
 ·rw [show encMR l = ([], 50) from by simp [encMR, hc]] at hen
  have HZ : Hid ([] = d) := Lib.hid (by rw [← HD.out]; simp [dgM, hc])
  have HE := Lib.hid hen
  clear hen hv HD hc
  go_enter Tryz.func66, Tryz.ntmps66
  go_wp2_with fail
  refine HE.out.mono ?_
  rintro e w1 ⟨rfl, hb⟩
  go_wp2_with fail
  all_goals (go_ret; refine ⟨?_, hb⟩; rw [← HZ.out]; rfl)
 ·rw [show encMR l = (encM l, 0) from by simp [encMR, hc]] at hen
  have HZ : Hid (tagP 4 (encM l) = d) := Lib.hid (by rw [← HD.out]; simp [dgM, hc])
  have hl := encM_len l hc
  have HE := Lib.hid hen
  clear hen hv HD hc
  generalize encM l = t at *
  go_enter Tryz.func66, Tryz.ntmps66
  go_wp2_with fail
  refine HE.out.mono ?_
  rintro e w1 ⟨rfl, hb⟩
  go_wp2_with fail
  refine (tagged_any 4 (by omega) t (by omega) _).mono ?_
  rintro e w2 ⟨rfl, hb2⟩
  go_wp2_with fail
  all_goals (go_ret; refine ⟨?_, hb.trans (hb2.mono hb.size)⟩; rw [← HZ.out]; rfl)
end Go.Proofs.YthkpmlfaddlieaaGreatDoor
namespace Go.Proofs.YthkpmlfaddlieaaGreatDoor
open Go.RowKit Pl
theorem rfflag_any (b : Bool) (w : World) : Calls Tryz.prog 105 #[.bool b] w fun e w' => e = .returned (.string ⟨List.toArray (flagB b)⟩) ∧ w' = w := by
 cases b
 ·go_enter Tryz.func105, Tryz.ntmps105
  go_wp2_with fail
  all_goals (go_ret; exact ⟨rfl, rfl⟩)
 ·go_enter Tryz.func105, Tryz.ntmps105
  go_wp2_with fail
  all_goals (go_ret; exact ⟨rfl, rfl⟩)
end Go.Proofs.YthkpmlfaddlieaaGreatDoor
