/- RefHW, HeadG, RowAt, Side, OwnG, Item, Ledg. -/
import Derived.Lib.OwnKind
import Derived.Maps.AppendAt
import Derived.Lib.OwnBridge
import Derived.Test.YthkpmlfaddlieaaGreatDoorMw12
set_option linter.unnecessarySimpa false
set_option linter.unusedSimpArgs false
set_option linter.unusedVariables false
set_option maxRecDepth 100000
set_option maxHeartbeats 32000000
namespace Go.Proofs.YthkpmlfaddlieaaGreatDoor
open Go.RowKit Pl
theorem flat_le (K : List Bs) (h : ∀ x ∈ K, x.length = 32) : K.flatten.length = 32 * K.length := by
 induction K with
 | nil => rfl
 | cons x r ih =>
  rw [List.flatten_cons, List.length_append, ih (fun y hy => h y (List.mem_cons_of_mem _ hy)), h x (List.mem_cons_self ..), List.length_cons]
  omega
theorem flat_take2 (K : List Bs) (i : Nat) (hi : i < K.length) : (K.take (i + 1)).flatten = (K.take i).flatten ++ K.getD i [] := by
 rw [List.take_add_one, List.getElem?_eq_getElem hi, List.getD_eq_getElem?_getD, List.getElem?_eq_getElem hi, List.flatten_append]
 simp
theorem rhwrit_any (a1 a2 a3 : Int) (lb : Bool) (pa st rc tx me ne : Bs) (K : List Bs) (sk : Value) (w : World) (hk : SS w sk K) (hf : fineH ⟨a1, a2, a3, lb, pa, st, rc, tx, me, ne, K⟩ = true) :
  Calls Tryz.prog 70 #[.agg #[.int .i64 a1, .int .i64 a2, .int .i64 a3, .bool lb, .string ⟨List.toArray pa⟩, .string ⟨List.toArray st⟩, .string ⟨List.toArray rc⟩, .string ⟨List.toArray tx⟩, .string ⟨List.toArray me⟩, .string ⟨List.toArray ne⟩, sk]] w fun e w' => e = .returned (.string ⟨List.toArray (writH ⟨a1, a2, a3, lb, pa, st, rc, tx, me, ne, K⟩)⟩) ∧ Below w.heap.size w w' := by
 have hb0 : Below w.heap.size w (w.alloc (.cells #[.int .i64 a1, .int .i64 a2, .int .i64 a3, .bool lb, .string ⟨List.toArray pa⟩, .string ⟨List.toArray st⟩, .string ⟨List.toArray rc⟩, .string ⟨List.toArray tx⟩, .string ⟨List.toArray me⟩, .string ⟨List.toArray ne⟩, sk] 48)) := Below.allocS (Below.refl _ _) _
 have B0 : Blk (w.alloc (.cells #[.int .i64 a1, .int .i64 a2, .int .i64 a3, .bool lb, .string ⟨List.toArray pa⟩, .string ⟨List.toArray st⟩, .string ⟨List.toArray rc⟩, .string ⟨List.toArray tx⟩, .string ⟨List.toArray me⟩, .string ⟨List.toArray ne⟩, sk] 48)) w.heap.size #[.int .i64 a1, .int .i64 a2, .int .i64 a3, .bool lb, .string ⟨List.toArray pa⟩, .string ⟨List.toArray st⟩, .string ⟨List.toArray rc⟩, .string ⟨List.toArray tx⟩, .string ⟨List.toArray me⟩, .string ⟨List.toArray ne⟩, sk] := Blk.new _ _ _
 obtain ⟨ka, kc, rfl⟩ := hk.form
 have HK := Lib.hid hk
 have p := fine_parts hf
 have hw : writH ⟨a1, a2, a3, lb, pa, st, rc, tx, me, ne, K⟩ = (num a1.toNat ++ num a2.toNat ++ num a3.toNat ++ flagB lb) ++ text pa ++ text st ++ text rc ++ tx ++ me ++ ne ++ K.flatten := by
  unfold writH
  simp only [List.append_assoc]
 have g1 := p.hn
 have g2 := p.en
 have g3 := p.vn
 have g4 := p.txs
 have g5 := p.members
 have g6 := p.next
 have g7 := p.state
 have g8 := p.receipts
 have g9 := p.parent
 have g10 := p.skl
 have g11 := linksF_len a1
 have HKL := Lib.hid p.sk
 simp only at g1 g2 g3 g4 g5 g6 g7 g8 g9 g10
 have HKN : Hid (K.length ≤ 20) := Lib.hid (by omega)
 have HW := Lib.hid hw
 obtain ⟨n1, rfl⟩ : ∃ n : Nat, a1 = n := ⟨a1.toNat, by omega⟩
 obtain ⟨n2, rfl⟩ : ∃ n : Nat, a2 = n := ⟨a2.toNat, by omega⟩
 obtain ⟨n3, rfl⟩ : ∃ n : Nat, a3 = n := ⟨a3.toNat, by omega⟩
 simp only [Int.toNat_natCast] at HW
 have q1 := callB (W := w.alloc (.cells #[.int .i64 ((n1 : Nat)), .int .i64 ((n2 : Nat)), .int .i64 ((n3 : Nat)), .bool lb, .string ⟨List.toArray pa⟩, .string ⟨List.toArray st⟩, .string ⟨List.toArray rc⟩, .string ⟨List.toArray tx⟩, .string ⟨List.toArray me⟩, .string ⟨List.toArray ne⟩, .slice ka K.length kc] 48)) (fun W => rNumber_any n1 (by omega) W)
 have q2 := callB (W := w.alloc (.cells #[.int .i64 ((n1 : Nat)), .int .i64 ((n2 : Nat)), .int .i64 ((n3 : Nat)), .bool lb, .string ⟨List.toArray pa⟩, .string ⟨List.toArray st⟩, .string ⟨List.toArray rc⟩, .string ⟨List.toArray tx⟩, .string ⟨List.toArray me⟩, .string ⟨List.toArray ne⟩, .slice ka K.length kc] 48)) (fun W => rNumber_any n2 (by omega) W)
 have q3 := callB (W := w.alloc (.cells #[.int .i64 ((n1 : Nat)), .int .i64 ((n2 : Nat)), .int .i64 ((n3 : Nat)), .bool lb, .string ⟨List.toArray pa⟩, .string ⟨List.toArray st⟩, .string ⟨List.toArray rc⟩, .string ⟨List.toArray tx⟩, .string ⟨List.toArray me⟩, .string ⟨List.toArray ne⟩, .slice ka K.length kc] 48)) (fun W => rNumber_any n3 (by omega) W)
 have q4 := callS (W := w.alloc (.cells #[.int .i64 ((n1 : Nat)), .int .i64 ((n2 : Nat)), .int .i64 ((n3 : Nat)), .bool lb, .string ⟨List.toArray pa⟩, .string ⟨List.toArray st⟩, .string ⟨List.toArray rc⟩, .string ⟨List.toArray tx⟩, .string ⟨List.toArray me⟩, .string ⟨List.toArray ne⟩, .slice ka K.length kc] 48)) (fun W _ => (rfflag_any lb W).mono (fun _ _ h => ⟨h.1, h.2.symm⟩))
 have q5 := fun (X : World) => callB (W := X) (fun W => rText_any pa (by omega) W)
 have q6 := fun (X : World) => callB (W := X) (fun W => rText_any st (by omega) W)
 have q7 := fun (X : World) => callB (W := X) (fun W => rText_any rc (by omega) W)
 have l1 := num_len n1
 have l2 := num_len n2
 have l3 := num_len n3
 have m1 : (flagB lb).length = 1 := by cases lb <;> rfl
 have m2 := text_len pa
 have m3 := text_len st
 have m4 := text_len rc
 clear hf p hw g10 g11 g1 g2 g3
 generalize writH ⟨n1, n2, n3, lb, pa, st, rc, tx, me, ne, K⟩ = R at *
 generalize num n1 = N1 at *
 generalize num n2 = N2 at *
 generalize num n3 = N3 at *
 generalize flagB lb = F1 at *
 generalize text pa = T1 at *
 generalize text st = T2 at *
 generalize text rc = T3 at *
 have HT : Hid (N1.length ≤ 9 ∧ N2.length ≤ 9 ∧ N3.length ≤ 9 ∧ F1.length = 1 ∧ T1.length ≤ 41 ∧ T2.length ≤ 41 ∧ T3.length ≤ 41 ∧ tx.length = 32 ∧ me.length = 32 ∧ ne.length = 32) := Lib.hid ⟨l1, l2, l3, m1, by omega, by omega, by omega, g4, g5, g6⟩
 have k1 : ¬ 9223372036854775807 < N1.length + N2.length := by omega
 have k2 : ¬ 9223372036854775807 < N1.length + N2.length + N3.length := by omega
 have k3 : ¬ 9223372036854775807 < N1.length + (N2.length + N3.length) + F1.length := by omega
 clear l1 l2 l3 m1 m2 m3 m4 g4 g5 g6 g7 g8 g9
 go_enter Tryz.func70, Tryz.ntmps70
 go_wp2_with fail
 refine wp_held rfl (by kernel_rfl) ?_
 (refine qP ?_ ?_ ?_; rotate_left; focus (intro w; go_simp; try with_reducible rfl))
 try simp only [pna, pnb, pnc, pnd, pne]
 refine wpQ_load (by rfl) (.int .i64 ((n1 : Nat))) (fun w hb2 => (by have c := (B0.keep hb2).cell 0; go_simp; try rfl)) ?_
 try simp only [pna, pnb, pnc, pnd, pne]
 refine wpQ_call (by rfl) _ _ (.string ⟨List.toArray N1⟩) (q1) (by intro w; go_simp; try rfl) ?_
 try simp only [pna, pnb, pnc, pnd, pne]
 (refine qP ?_ ?_ ?_; rotate_left; focus (intro w; go_simp; try with_reducible rfl))
 try simp only [pna, pnb, pnc, pnd, pne]
 refine wpQ_load (by rfl) (.int .i64 ((n2 : Nat))) (fun w hb2 => (by have c := (B0.keep hb2).cell 1; go_simp; try rfl)) ?_
 try simp only [pna, pnb, pnc, pnd, pne]
 refine wpQ_call (by rfl) _ _ (.string ⟨List.toArray N2⟩) (q2) (by intro w; go_simp; try rfl) ?_
 try simp only [pna, pnb, pnc, pnd, pne]
 (refine qP ?_ ?_ ?_; rotate_left; focus (intro w; go_simp; try with_reducible rfl))
 try simp only [pna, pnb, pnc, pnd, pne]
 (refine qP ?_ ?_ ?_; rotate_left; focus (intro w; go_simp; try with_reducible rfl))
 try simp only [pna, pnb, pnc, pnd, pne]
 refine wpQ_load (by rfl) (.int .i64 ((n3 : Nat))) (fun w hb2 => (by have c := (B0.keep hb2).cell 2; go_simp; try rfl)) ?_
 try simp only [pna, pnb, pnc, pnd, pne]
 refine wpQ_call (by rfl) _ _ (.string ⟨List.toArray N3⟩) (q3) (by intro w; go_simp; try rfl) ?_
 try simp only [pna, pnb, pnc, pnd, pne]
 (refine qP ?_ ?_ ?_; rotate_left; focus (intro w; go_simp; try with_reducible rfl))
 try simp only [pna, pnb, pnc, pnd, pne]
 (refine qP ?_ ?_ ?_; rotate_left; focus (intro w; go_simp; try with_reducible rfl))
 try simp only [pna, pnb, pnc, pnd, pne]
 refine wpQ_load (by rfl) (.bool lb) (fun w hb2 => (by have c := (B0.keep hb2).cell 3; go_simp; try rfl)) ?_
 try simp only [pna, pnb, pnc, pnd, pne]
 refine wpQ_call (by rfl) _ _ (.string ⟨List.toArray F1⟩) (q4) (by intro w; go_simp; try rfl) ?_
 try simp only [pna, pnb, pnc, pnd, pne]
 (refine qP ?_ ?_ ?_; rotate_left; focus (intro w; go_simp; try with_reducible rfl))
 try simp only [pna, pnb, pnc, pnd, pne]
 (refine qP ?_ ?_ ?_; rotate_left; focus (intro w; go_simp; try with_reducible rfl))
 try simp only [pna, pnb, pnc, pnd, pne]
 intro w2 hS
 have B2 := B0.keep hS
 have hb2 := hb0.trans (hS.mono hb0.size)
 obtain ⟨z1, z2, z3, z4, z5, z6, z7, z8, z9, z10⟩ := HT.out
 have hPl : (N1 ++ (N2 ++ (N3 ++ F1))).length ≤ 28 := by simp only [List.length_append]; omega
 have HW2 : Hid (R = N1 ++ (N2 ++ (N3 ++ F1)) ++ (T1 ++ (T2 ++ (T3 ++ (tx ++ (me ++ ne))))) ++ K.flatten) := Lib.hid (by rw [HW.out]; simp only [List.append_assoc])
 generalize N1 ++ (N2 ++ (N3 ++ F1)) = P at *
 have k4 : ¬ 9223372036854775807 < P.length + T1.length := by omega
 have k5 : ¬ 9223372036854775807 < P.length + T1.length + T2.length := by omega
 have k6 : ¬ 9223372036854775807 < P.length + (T1.length + T2.length) + T3.length := by omega
 have k7 : ¬ 9223372036854775807 < P.length + (T1.length + (T2.length + T3.length)) + tx.length := by omega
 have k8 : ¬ 9223372036854775807 < P.length + (T1.length + (T2.length + (T3.length + tx.length))) + me.length := by omega
 have k9 : ¬ 9223372036854775807 < P.length + (T1.length + (T2.length + (T3.length + (tx.length + me.length)))) + ne.length := by omega
 have HPL : Hid ((P ++ (T1 ++ (T2 ++ (T3 ++ (tx ++ (me ++ ne)))))).length ≤ 300) := Lib.hid (by simp only [List.length_append]; omega)
 clear z1 z2 z3 z4 z5 z6 z7 z8 z9 z10 k1 k2 k3 hS q1 q2 q3 q4 hPl HW HT B0 hb0
 go_wp2_with fail
 refine wp_held rfl (by kernel_rfl) ?_
 (refine qP ?_ ?_ ?_; rotate_left; focus (intro w; go_simp; try with_reducible rfl))
 try simp only [pna, pnb, pnc, pnd, pne]
 (refine qP ?_ ?_ ?_; rotate_left; focus (intro w; go_simp; try with_reducible rfl))
 try simp only [pna, pnb, pnc, pnd, pne]
 refine wpQ_load (by rfl) (.string ⟨List.toArray pa⟩) (fun w hb => (by have c := (B2.keep hb).cell 4; go_simp; try rfl)) ?_
 try simp only [pna, pnb, pnc, pnd, pne]
 refine wpQ_call (by rfl) _ _ (.string ⟨List.toArray T1⟩) (q5 _) (by intro w; go_simp; try rfl) ?_
 try simp only [pna, pnb, pnc, pnd, pne]
 (refine qP ?_ ?_ ?_; rotate_left; focus (intro w; go_simp; try with_reducible rfl))
 try simp only [pna, pnb, pnc, pnd, pne]
 (refine qP ?_ ?_ ?_; rotate_left; focus (intro w; go_simp; try with_reducible rfl))
 try simp only [pna, pnb, pnc, pnd, pne]
 refine wpQ_load (by rfl) (.string ⟨List.toArray st⟩) (fun w hb => (by have c := (B2.keep hb).cell 5; go_simp; try rfl)) ?_
 try simp only [pna, pnb, pnc, pnd, pne]
 refine wpQ_call (by rfl) _ _ (.string ⟨List.toArray T2⟩) (q6 _) (by intro w; go_simp; try rfl) ?_
 try simp only [pna, pnb, pnc, pnd, pne]
 (refine qP ?_ ?_ ?_; rotate_left; focus (intro w; go_simp; try with_reducible rfl))
 try simp only [pna, pnb, pnc, pnd, pne]
 (refine qP ?_ ?_ ?_; rotate_left; focus (intro w; go_simp; try with_reducible rfl))
 try simp only [pna, pnb, pnc, pnd, pne]
 refine wpQ_load (by rfl) (.string ⟨List.toArray rc⟩) (fun w hb => (by have c := (B2.keep hb).cell 6; go_simp; try rfl)) ?_
 try simp only [pna, pnb, pnc, pnd, pne]
 refine wpQ_call (by rfl) _ _ (.string ⟨List.toArray T3⟩) (q7 _) (by intro w; go_simp; try rfl) ?_
 try simp only [pna, pnb, pnc, pnd, pne]
 (refine qP ?_ ?_ ?_; rotate_left; focus (intro w; go_simp; try with_reducible rfl))
 try simp only [pna, pnb, pnc, pnd, pne]
 (refine qP ?_ ?_ ?_; rotate_left; focus (intro w; go_simp; try with_reducible rfl))
 try simp only [pna, pnb, pnc, pnd, pne]
 refine wpQ_load (by rfl) (.string ⟨List.toArray tx⟩) (fun w hb => (by have c := (B2.keep hb).cell 7; go_simp; try rfl)) ?_
 try simp only [pna, pnb, pnc, pnd, pne]
 (refine qP ?_ ?_ ?_; rotate_left; focus (intro w; go_simp; try with_reducible rfl))
 try simp only [pna, pnb, pnc, pnd, pne]
 (refine qP ?_ ?_ ?_; rotate_left; focus (intro w; go_simp; try with_reducible rfl))
 try simp only [pna, pnb, pnc, pnd, pne]
 refine wpQ_load (by rfl) (.string ⟨List.toArray me⟩) (fun w hb => (by have c := (B2.keep hb).cell 8; go_simp; try rfl)) ?_
 try simp only [pna, pnb, pnc, pnd, pne]
 (refine qP ?_ ?_ ?_; rotate_left; focus (intro w; go_simp; try with_reducible rfl))
 try simp only [pna, pnb, pnc, pnd, pne]
 (refine qP ?_ ?_ ?_; rotate_left; focus (intro w; go_simp; try with_reducible rfl))
 try simp only [pna, pnb, pnc, pnd, pne]
 refine wpQ_load (by rfl) (.string ⟨List.toArray ne⟩) (fun w hb => (by have c := (B2.keep hb).cell 9; go_simp; try rfl)) ?_
 try simp only [pna, pnb, pnc, pnd, pne]
 (refine qP ?_ ?_ ?_; rotate_left; focus (intro w; go_simp; try with_reducible rfl))
 try simp only [pna, pnb, pnc, pnd, pne]
 (refine qP ?_ ?_ ?_; rotate_left; focus (intro w; go_simp; try with_reducible rfl))
 try simp only [pna, pnb, pnc, pnd, pne]
 intro w3 hS
 have B3 := B2.keep hS
 have hb3 := hb2.trans (hS.mono hb2.size)
 generalize P ++ (T1 ++ (T2 ++ (T3 ++ (tx ++ (me ++ ne))))) = H at *
 have HH : Hid (H.length ≤ 300) := HPL
 clear k4 k5 k6 k7 k8 k9 q5 q6 q7 hS B2 hb2 HPL
 go_wp2_with fail
 go_loopw [3, 4] (fun s3 s4 wr => ∃ i : Nat, s4 = .int .i64 i ∧ i ≤ K.length ∧ s3 = .string ⟨List.toArray (H ++ (K.take i).flatten)⟩ ∧ Blk wr w.heap.size _ ∧ Below w.heap.size w wr) (fun _ s4 _ => K.length - (intOf s4).toNat)
 case atStart => exact ⟨0, rfl, Nat.zero_le _, by simp, B3, hb3⟩
 case round =>
  obtain ⟨i, rfl, hi, rfl, Br, hbr⟩ := hrel
  clear B3 hb3
  obtain ⟨b1, b2, b3⟩ := id Br
  have hkn := HKN.out
  by_cases hlt : i < K.length
  ·have i0 : 0 ≤ (i : Int) ∧ (i : Int) < (K.length : Int) := by omega
   obtain ⟨g, off, e1, hg, x1⟩ := (HK.out.keep hbr).at' i hlt
   subst e1
   have hfl := flat_le (K.take i) (fun x hx => HKL.out x (List.mem_of_mem_take hx))
   rw [List.length_take] at hfl
   have hxl : (K.getD i []).length = 32 := HKL.out _ (by rw [List.getD_eq_getElem?_getD, List.getElem?_eq_getElem hlt]; exact List.getElem_mem _)
   have HNX : Hid (H ++ (K.take (i + 1)).flatten = H ++ (K.take i).flatten ++ K.getD i []) := Lib.hid (by rw [flat_take2 K i hlt, List.append_assoc])
   have k1 : ¬ 9223372036854775807 < (H ++ (K.take i).flatten).length + (K.getD i []).length := by
    have := HH.out
    have := HKN.out
    rw [List.length_append]
    omega
   clear hfl hxl
   generalize K.getD i [] = x at *
   generalize H ++ (K.take i).flatten = Z at *
   go_wp2_with fail
   exact ⟨⟨i + 1, by go_num, by omega, by rw [HNX.out], Br, hbr⟩, by have := HKN.out; simp [intOf]; omega⟩
  ·obtain rfl : i = K.length := by omega
   have HE : Hid (H ++ (K.take K.length).flatten = R) := Lib.hid (by rw [List.take_length, HW2.out])
   generalize H ++ (K.take K.length).flatten = Z at *
   go_wp2_with fail
   go_ret
   exact ⟨by rw [← HE.out]; rfl, hbr⟩
end Go.Proofs.YthkpmlfaddlieaaGreatDoor
namespace Go.Proofs.YthkpmlfaddlieaaGreatDoor
open Go.RowKit Go.Shelf Pl
def dgH (h : Hd) : Bs := if fineH h then tagP 2 (writH h) else []
theorem dgH_yes {h : Hd} (hf : fineH h = true) : dgH h = tagP 2 (writH h) := if_pos hf
theorem dgH_no {h : Hd} (hf : fineH h = false) : dgH h = [] := if_neg (by rw [hf]; decide)
theorem hd_digest (a1 a2 a3 : Int) (lb : Bool) (pa st rc tx me ne : Bs) (K : List Bs) (ka : Option Addr) (kc : Nat) (w : World) (hk : SS w (.slice ka K.length kc) K) (hT : KT w) :
  Calls Tryz.prog 21 #[.agg #[.int .i64 a1, .int .i64 a2, .int .i64 a3, .bool lb, .string ⟨List.toArray pa⟩, .string ⟨List.toArray st⟩, .string ⟨List.toArray rc⟩, .string ⟨List.toArray tx⟩, .string ⟨List.toArray me⟩, .string ⟨List.toArray ne⟩, .slice ka K.length kc]] w fun e w' => e = .returned (.string ⟨List.toArray (dgH ⟨a1, a2, a3, lb, pa, st, rc, tx, me, ne, K⟩)⟩) ∧ Below w.heap.size w w' := by
 have hb0 : Below w.heap.size w (w.alloc (.cells #[.int .i64 a1, .int .i64 a2, .int .i64 a3, .bool lb, .string ⟨List.toArray pa⟩, .string ⟨List.toArray st⟩, .string ⟨List.toArray rc⟩, .string ⟨List.toArray tx⟩, .string ⟨List.toArray me⟩, .string ⟨List.toArray ne⟩, .slice ka K.length kc] 48)) := Below.allocS (Below.refl _ _) _
 have B0 : Blk (w.alloc (.cells #[.int .i64 a1, .int .i64 a2, .int .i64 a3, .bool lb, .string ⟨List.toArray pa⟩, .string ⟨List.toArray st⟩, .string ⟨List.toArray rc⟩, .string ⟨List.toArray tx⟩, .string ⟨List.toArray me⟩, .string ⟨List.toArray ne⟩, .slice ka K.length kc] 48)) w.heap.size #[.int .i64 a1, .int .i64 a2, .int .i64 a3, .bool lb, .string ⟨List.toArray pa⟩, .string ⟨List.toArray st⟩, .string ⟨List.toArray rc⟩, .string ⟨List.toArray tx⟩, .string ⟨List.toArray me⟩, .string ⟨List.toArray ne⟩, .slice ka K.length kc] := Blk.new _ _ _
 have q1 := hd_encode a1 a2 a3 lb pa st rc tx me ne K _ _ (hk.keep hb0)
 cases hf : fineH ⟨a1, a2, a3, lb, pa, st, rc, tx, me, ne, K⟩
 ·rw [encHR_no hf] at q1
  rw [dgH_no hf]
  clear hf
  go_enter Tryz.func21, Tryz.ntmps21
  go_wp2_with (first | (refine wpList_rowLoad row_head rfl (.tmp 1) rfl rfl (vs := [.int .i64 a1, .int .i64 a2, .int .i64 a3, .bool lb, .string ⟨List.toArray pa⟩, .string ⟨List.toArray st⟩, .string ⟨List.toArray rc⟩, .string ⟨List.toArray tx⟩, .string ⟨List.toArray me⟩, .string ⟨List.toArray ne⟩, .slice ka K.length kc]) rfl B0 ?_))
  refine q1.mono ?_
  rintro e w1 ⟨rfl, hb⟩
  have hb1 := hb0.trans (hb.mono hb0.size)
  go_wp2_with fail
  all_goals (go_ret; exact ⟨rfl, hb1⟩)
 ·rw [encHR_yes hf] at q1
  rw [dgH_yes hf]
  have hl := writH_len hf
  clear hf
  generalize writH ⟨a1, a2, a3, lb, pa, st, rc, tx, me, ne, K⟩ = M at *
  go_enter Tryz.func21, Tryz.ntmps21
  go_wp2_with (first | (refine wpList_rowLoad row_head rfl (.tmp 1) rfl rfl (vs := [.int .i64 a1, .int .i64 a2, .int .i64 a3, .bool lb, .string ⟨List.toArray pa⟩, .string ⟨List.toArray st⟩, .string ⟨List.toArray rc⟩, .string ⟨List.toArray tx⟩, .string ⟨List.toArray me⟩, .string ⟨List.toArray ne⟩, .slice ka K.length kc]) rfl B0 ?_))
  refine q1.mono ?_
  rintro e w1 ⟨rfl, hb⟩
  have hb1 := hb0.trans (hb.mono hb0.size)
  go_wp2_with fail
  refine (digsum_ok 2 (by omega) (by omega) M (by omega) _ (hT.keep hb1)).mono ?_
  rintro e w2 ⟨rfl, hb⟩
  have hb2 := hb1.trans (hb.mono hb1.size)
  go_wp2_with fail
  all_goals (go_ret; exact ⟨rfl, hb2⟩)
theorem rhd_digest (a1 a2 a3 : Int) (lb : Bool) (pa st rc tx me ne : Bs) (K : List Bs) (ka : Option Addr) (kc : Nat) (w : World) (hk : SS w (.slice ka K.length kc) K) :
  Calls Tryz.prog 33 #[.agg #[.int .i64 a1, .int .i64 a2, .int .i64 a3, .bool lb, .string ⟨List.toArray pa⟩, .string ⟨List.toArray st⟩, .string ⟨List.toArray rc⟩, .string ⟨List.toArray tx⟩, .string ⟨List.toArray me⟩, .string ⟨List.toArray ne⟩, .slice ka K.length kc]] w fun e w' => e = .returned (.string ⟨List.toArray (dgH ⟨a1, a2, a3, lb, pa, st, rc, tx, me, ne, K⟩)⟩) ∧ Below w.heap.size w w' := by
 have hb0 : Below w.heap.size w (w.alloc (.cells #[.int .i64 a1, .int .i64 a2, .int .i64 a3, .bool lb, .string ⟨List.toArray pa⟩, .string ⟨List.toArray st⟩, .string ⟨List.toArray rc⟩, .string ⟨List.toArray tx⟩, .string ⟨List.toArray me⟩, .string ⟨List.toArray ne⟩, .slice ka K.length kc] 48)) := Below.allocS (Below.refl _ _) _
 have B0 : Blk (w.alloc (.cells #[.int .i64 a1, .int .i64 a2, .int .i64 a3, .bool lb, .string ⟨List.toArray pa⟩, .string ⟨List.toArray st⟩, .string ⟨List.toArray rc⟩, .string ⟨List.toArray tx⟩, .string ⟨List.toArray me⟩, .string ⟨List.toArray ne⟩, .slice ka K.length kc] 48)) w.heap.size #[.int .i64 a1, .int .i64 a2, .int .i64 a3, .bool lb, .string ⟨List.toArray pa⟩, .string ⟨List.toArray st⟩, .string ⟨List.toArray rc⟩, .string ⟨List.toArray tx⟩, .string ⟨List.toArray me⟩, .string ⟨List.toArray ne⟩, .slice ka K.length kc] := Blk.new _ _ _
 have q1 := rhfine_any a1 a2 a3 lb pa st rc tx me ne K _ _ (hk.keep hb0)
 rw [fineHR_eq] at q1
 cases hf : fineH ⟨a1, a2, a3, lb, pa, st, rc, tx, me, ne, K⟩
 ·rw [hf] at q1
  rw [dgH_no hf]
  clear hf
  go_enter Tryz.func33, Tryz.ntmps33
  go_wp2_with (first | (refine wpList_rowLoad row_head rfl (.tmp 1) rfl rfl (vs := [.int .i64 a1, .int .i64 a2, .int .i64 a3, .bool lb, .string ⟨List.toArray pa⟩, .string ⟨List.toArray st⟩, .string ⟨List.toArray rc⟩, .string ⟨List.toArray tx⟩, .string ⟨List.toArray me⟩, .string ⟨List.toArray ne⟩, .slice ka K.length kc]) rfl B0 ?_))
  refine q1.mono ?_
  rintro e w1 ⟨rfl, hb⟩
  have hb1 := hb0.trans (hb.mono hb0.size)
  go_wp2_with fail
  all_goals (go_ret; exact ⟨rfl, hb1⟩)
 ·rw [hf] at q1
  rw [dgH_yes hf]
  have hl := writH_len hf
  have q2 := fun (X : World) (hX : Below w.heap.size w X) => rhwrit_any a1 a2 a3 lb pa st rc tx me ne K _ X (hk.keep hX) hf
  clear hf
  generalize writH ⟨a1, a2, a3, lb, pa, st, rc, tx, me, ne, K⟩ = M at *
  go_enter Tryz.func33, Tryz.ntmps33
  go_wp2_with (first | (refine wpList_rowLoad row_head rfl (.tmp 1) rfl rfl (vs := [.int .i64 a1, .int .i64 a2, .int .i64 a3, .bool lb, .string ⟨List.toArray pa⟩, .string ⟨List.toArray st⟩, .string ⟨List.toArray rc⟩, .string ⟨List.toArray tx⟩, .string ⟨List.toArray me⟩, .string ⟨List.toArray ne⟩, .slice ka K.length kc]) rfl B0 ?_))
  refine q1.mono ?_
  rintro e w1 ⟨rfl, hb⟩
  have hb1 := hb0.trans (hb.mono hb0.size)
  have B1 := B0.keep hb
  go_wp2_with (first | (refine wpList_rowLoad row_head rfl (.tmp 1) rfl rfl (vs := [.int .i64 a1, .int .i64 a2, .int .i64 a3, .bool lb, .string ⟨List.toArray pa⟩, .string ⟨List.toArray st⟩, .string ⟨List.toArray rc⟩, .string ⟨List.toArray tx⟩, .string ⟨List.toArray me⟩, .string ⟨List.toArray ne⟩, .slice ka K.length kc]) rfl B1 ?_))
  refine (q2 _ hb1).mono ?_
  rintro e w2 ⟨rfl, hb⟩
  have hb2 := hb1.trans (hb.mono hb1.size)
  go_wp2_with fail
  refine (tagged_any 2 (by omega) M (by omega) _).mono ?_
  rintro e w3 ⟨rfl, hb⟩
  have hb3 := hb2.trans (hb.mono hb2.size)
  go_wp2_with fail
  all_goals (go_ret; exact ⟨rfl, hb3⟩)
end Go.Proofs.YthkpmlfaddlieaaGreatDoor
namespace Go.Proofs.YthkpmlfaddlieaaGreatDoor
open Go.RowKit
theorem rg_keep {W w : World} {b o : Nat} {cs : List Value} (h : W.rangeAt b o cs) (hlt : b < W.heap.size) (hb : Below W.heap.size W w) : w.rangeAt b o cs := by
 intro j v hj
 exact (hb.cell (p := ⟨b, o + j, none⟩) hlt).trans (h j v hj)
theorem row_varR {P : Program} {T : TypeId} {n : Nat} (hT : RowT P T n) (w : World) {b off : Nat} {vs : List Value} (hl : vs.length = n) (hR : w.rangeAt b off vs) : (loadVar T ⟨b, off, none⟩).run P w = .ok (.agg vs.toArray) w := by
 obtain ⟨⟨d, h1, h2⟩, h3⟩ := hT
 exact run_loadVar_mid w b off T vs d hR h1 h2 (by rw [hl]; exact h3)
theorem exec_rowR {P : Program} {T : TypeId} {n : Nat} (hT : RowT P T n) {o : Oper} {a : Act} {w : World} (x : Operand) (ho : o.op = .load T x) {b off : Nat} (hx : a.eval x = .pointer (some ⟨b, off, none⟩)) {vs : List Value} (hl : vs.length = n) (hR : w.rangeAt b off vs) : (execOp a.eval o).run P w = .ok (.value (.agg vs.toArray)) w := by
 unfold execOp
 simp only [ho, hx, Instr.loadAt, Instr.sureAddr, Sem.run_bind, Sem.run_pure, Result.andThen_ok, row_varR hT w hl hR]
section
variable {P : Program} {T : TypeId} {n : Nat} {ops : Array Oper} {rest : List Oper} {op : Oper} {a : Act} {w : World} {Q : Exit → Act → World → Prop}
theorem wpList_rowR (hT : RowT P T n) (hgd : op.guard = none) (x : Operand) (ho : op.op = .load T x) {b o : Nat} (hx : a.eval x = .pointer (some ⟨b, o, none⟩)) {vs : List Value} (hl : vs.length = n) (hB : w.rangeAt b o vs)
  (h : wpList P ops Q rest (a.put op.dst (.agg vs.toArray)) w) : wpList P ops Q (op :: rest) a w := by
 obtain ⟨⟨d, h1, h2⟩, h3⟩ := hT
 exact wpList_load_mid hgd T x ho b o hx vs d hB h1 h2 (by rw [hl]; exact h3) h
theorem wpList_rowRG (hT : RowT P T n) (hw : Region.wanted op (yielded ops a.tmps) = true) (x : Operand) (ho : op.op = .load T x) {b o : Nat} (hx : a.eval x = .pointer (some ⟨b, o, none⟩)) {vs : List Value} (hl : vs.length = n) (hB : w.rangeAt b o vs)
  (h : wpList P ops Q rest (a.put op.dst (.agg vs.toArray)) w) : wpList P ops Q (op :: rest) a w := by
 obtain ⟨⟨d, h1, h2⟩, h3⟩ := hT
 refine wpList_step fun K hK => ?_
 rw [if_pos hw]
 exact wp_load_mid T x ho b o hx vs d hB h1 h2 (by rw [hl]; exact h3) (hK _ _ h)
end
section
variable {P : Program} {T : TypeId} {n : Nat} {op : Oper} {a : Act} {w : World} {K : Act → World → Prop} {Q : Exit → Act → World → Prop}
theorem wp_rowS (hT : RowT P T n) (x y : Operand) (ho : op.op = .store T x y) {b : Nat} (hx : a.eval x = .pointer (some ⟨b, 0, none⟩)) {vs : List Value} (hy : a.eval y = .agg vs.toArray) (hl : vs.length = n) (h1 : ∀ v ∈ vs, v.oneCell' = true)
  {us : List Value} (hlu : us.length = n) (hB : Blk w b us.toArray)
  (h : ∀ w', Blk w' b vs.toArray → Mod [b] w w' → K (a.put op.dst undef) w') : op.wp P a w K Q := by
 obtain ⟨_, h3⟩ := hT
 have ht : w.there b 0 vs.length := fun j hj => by
  rw [Nat.zero_add, hB.cell, hB.froz]
  simp; omega
 refine wp_store_mid T x y ho b 0 _ hx hy (by simpa using ht) (by simp [hl, h3]) (all_oneCell_toArray h1) ?_
 refine h _ ⟨fun o => ?_, fun o => by rw [World.frozen?_setCells]; exact hB.froz o, ?_⟩ (Mod.setCellsL b _ 0 w)
 ·by_cases ho : o < vs.length
  ·have := World.cell?_setCells_in b vs 0 w (fun i hi => (ht i hi).1) o ho
   rw [Nat.zero_add] at this
   simp only [List.getElem?_toArray]
   rw [List.getElem?_eq_getElem ho]
   exact this
  ·rw [World.cell?_setCells_out b _ 0 w _ (fun _ _ => .inr (by simp at ho ⊢; omega)), hB.cell]
   simp at ho ⊢
   rw [List.getElem?_eq_none (by omega), List.getElem?_eq_none (by omega)]
 ·exact Nat.lt_of_lt_of_le hB.lt (Mod.setCellsL b _ 0 w).size
end
theorem rg_sub {w : World} {b o : Nat} {cs ds : List Value} (h : w.rangeAt b o cs) (k : Nat) (hd : ∀ j v, ds[j]? = some v → cs[k + j]? = some v) : w.rangeAt b (o + k) ds := fun j v hj => by
 have := h (k + j) v (hd j v hj)
 rwa [show o + (k + j) = o + k + j from by omega] at this
end Go.Proofs.YthkpmlfaddlieaaGreatDoor
namespace Go.Proofs.YthkpmlfaddlieaaGreatDoor
open Go.RowKit Go.Shelf Pl
def hcs (h : Hd) (k : Value) : List Value := [.int .i64 h.height, .int .i64 h.epoch, .int .i64 h.view, .bool h.last, .string ⟨List.toArray h.parent⟩, .string ⟨List.toArray h.state⟩, .string ⟨List.toArray h.receipts⟩, .string ⟨List.toArray h.txs⟩, .string ⟨List.toArray h.members⟩, .string ⟨List.toArray h.next⟩, k]
def sdcs (h : Hd) (k : Value) (d : Bs) (ns : Value) : List Value := [.int .i64 h.height, .int .i64 h.epoch, .int .i64 h.view, .bool h.last, .string ⟨List.toArray h.parent⟩, .string ⟨List.toArray h.state⟩, .string ⟨List.toArray h.receipts⟩, .string ⟨List.toArray h.txs⟩, .string ⟨List.toArray h.members⟩, .string ⟨List.toArray h.next⟩, k, .string ⟨List.toArray d⟩, ns]
theorem row_side : RowT Tryz.prog 93 13 := RowT.mk' Tryz.underlying93 rfl (by kernel_rfl)
theorem row_key : RowT Tryz.prog 98 2 := RowT.mk' Tryz.underlying98 rfl (by kernel_rfl)
theorem row_cert : RowT Tryz.prog 37 2 := RowT.mk' Tryz.underlying37 rfl (by kernel_rfl)
theorem sd_head {w : World} {b : Nat} {h : Hd} {k : Value} {d : Bs} {ns : Value} (hB : Blk w b (sdcs h k d ns).toArray) : w.rangeAt b 0 (hcs h k) := by
 intro j v hj
 rw [Nat.zero_add, hB.cell j]
 simp only [List.getElem?_toArray]
 rw [show sdcs h k d ns = hcs h k ++ [.string ⟨List.toArray d⟩, ns] from rfl, List.getElem?_append_left (List.getElem?_eq_some_iff.1 hj).1]
 exact hj
theorem wkey_any (h : Hd) (ka : Option Addr) (kc : Nat) (d : Bs) (ns : Value) (w : World) (hk : SS w (.slice ka h.skips.length kc) h.skips) (hT : KT w) :
  Calls Tryz.prog 39 #[.agg (sdcs h (.slice ka h.skips.length kc) d ns).toArray] w fun e w' => e = .returned (.agg #[.int .i64 h.height, .string ⟨List.toArray (dgH h)⟩]) ∧ Below w.heap.size w w' := by
 obtain ⟨a1, a2, a3, lb, pa, st, rc, tx, me, ne, K⟩ := h
 have hb0 : Below w.heap.size w (w.alloc (.cells (sdcs ⟨a1, a2, a3, lb, pa, st, rc, tx, me, ne, K⟩ (.slice ka K.length kc) d ns).toArray 93)) := Below.allocS (Below.refl _ _) _
 have B0 : Blk (w.alloc (.cells (sdcs ⟨a1, a2, a3, lb, pa, st, rc, tx, me, ne, K⟩ (.slice ka K.length kc) d ns).toArray 93)) w.heap.size (sdcs ⟨a1, a2, a3, lb, pa, st, rc, tx, me, ne, K⟩ (.slice ka K.length kc) d ns).toArray := Blk.new _ _ _
 have q1 := fun (X : World) (hX : Below w.heap.size w X) => hd_digest a1 a2 a3 lb pa st rc tx me ne K ka kc X (hk.keep hX) (hT.keep hX)
 generalize dgH ⟨a1, a2, a3, lb, pa, st, rc, tx, me, ne, K⟩ = D at *
 have B1 : Blk ((w.alloc (.cells (sdcs ⟨a1, a2, a3, lb, pa, st, rc, tx, me, ne, K⟩ (.slice ka K.length kc) d ns).toArray 93)).alloc (.cells #[.int .i64 0, .string ⟨List.toArray []⟩] 98)) w.heap.size (sdcs ⟨a1, a2, a3, lb, pa, st, rc, tx, me, ne, K⟩ (.slice ka K.length kc) d ns).toArray := B0.alloc _
 have R1 : Blk ((w.alloc (.cells (sdcs ⟨a1, a2, a3, lb, pa, st, rc, tx, me, ne, K⟩ (.slice ka K.length kc) d ns).toArray 93)).alloc (.cells #[.int .i64 0, .string ⟨List.toArray []⟩] 98)) (w.heap.size + 1) (List.toArray [.int .i64 0, .string ⟨List.toArray []⟩]) := Blk.new' (by simp)
 have hb1 : Below w.heap.size w ((w.alloc (.cells (sdcs ⟨a1, a2, a3, lb, pa, st, rc, tx, me, ne, K⟩ (.slice ka K.length kc) d ns).toArray 93)).alloc (.cells #[.int .i64 0, .string ⟨List.toArray []⟩] 98)) := Below.allocS hb0 _
 go_enter Tryz.func39, Tryz.ntmps39
 go_wp2_with fail
 generalize hW : (w.alloc (.cells (sdcs ⟨a1, a2, a3, lb, pa, st, rc, tx, me, ne, K⟩ (.slice ka K.length kc) d ns).toArray 93)).alloc (.cells #[.int .i64 0, .string ⟨List.toArray []⟩] 98) = W at *
 clear hW B0 hb0
 refine wpH_startM [w.heap.size + 1] (by kernel_rfl) (fun hS => ?_)
 have KX := R1.drew
 (refine hP 0 ?_ ⟨some 3, .fieldAddr 93 (.tmp 1) 0, 0, "", #[], none⟩ hS ?_ ?_; rotate_left; focus (intro w; go_simp; try with_reducible rfl))
 try simp only [pna, pnb, pnc, pnd, pne]
 (refine hP 1 ?_ ⟨some 4, .fieldAddr 48 (.tmp 3) 0, 0, "", #[], none⟩ hS ?_ ?_; rotate_left; focus (intro w; go_simp; try with_reducible rfl))
 try simp only [pna, pnb, pnc, pnd, pne]
 refine wpH_load 2 (.int .i64 a1) (oi := { dst := some 5, op := Op.load 3 (Operand.tmp 4), type := 3, pos := "witness.go:34", after := #[{ on := 1, ground := Ground.data }], guard := none }) rfl (by kernel_rfl) (by kernel_rfl) (by kernel_rfl) (by rfl) hS (fun _ _ _ h => h) (fun w' hb2 => (by have c := (B1.mod hb2 (by simp)).cell 0; simp only [sdcs] at c; go_simp; try rfl)) ?_
 try simp only [pna, pnb, pnc, pnd, pne]
 (refine hP 3 ?_ ⟨some 6, .fieldAddr 93 (.tmp 1) 0, 0, "", #[], none⟩ hS ?_ ?_; rotate_left; focus (intro w; go_simp; try with_reducible rfl))
 try simp only [pna, pnb, pnc, pnd, pne]
 refine wpH_load 4 (.agg (hcs ⟨a1, a2, a3, lb, pa, st, rc, tx, me, ne, K⟩ (.slice ka K.length kc)).toArray) (oi := { dst := some 7, op := Op.load 48 (Operand.tmp 6), type := 48, pos := "witness.go:34", after := #[{ on := 3, ground := Ground.data }], guard := none }) rfl (by kernel_rfl) (by kernel_rfl) (by kernel_rfl) (by rfl) hS (fun _ _ _ h => h) (fun w' hb2 => exec_rowR row_head (.tmp 6) rfl rfl rfl (sd_head (B1.mod hb2 (by simp)))) ?_
 try simp only [pna, pnb, pnc, pnd, pne]
 refine wpH_call 5 (oi := { dst := some 8, op := Op.call { callee := Callee.value (Operand.func 21), args := #[Operand.tmp 7], argTypes := #[48] }, type := 9, pos := "witness.go:34", after := #[{ on := 4, ground := Ground.data }], guard := none }) rfl (by kernel_rfl) (by rfl) (q1 _ (Below.mod hb1 hS hb1.size (by simp))) ?_ ?_
 ·(go_simp; try rfl)
 rintro e w' ⟨rfl, hbx⟩
 refine ⟨_, rfl, hS.trans (Mod.of_below hbx), ?_⟩
 replace hS := hS.trans (Mod.of_below hbx)
 replace KX := KX.keep hbx
 try simp only [pna, pnb, pnc, pnd, pne]
 (refine hP 6 ?_ ⟨some 9, .build 98 #[(0, .tmp 5), (1, .tmp 8)], 98, "", #[], none⟩ hS ?_ ?_; rotate_left; focus (intro w; go_simp; try with_reducible rfl))
 try simp only [pna, pnb, pnc, pnd, pne]
 refine wpH_op 7 (oi := { dst := none, op := Op.store 98 (Operand.tmp 2) (Operand.tmp 9), type := 0, pos := "witness.go:34", after := #[{ on := 6, ground := Ground.data }, { on := 5, ground := Ground.chain }, { on := 0, ground := Ground.phase }, { on := 1, ground := Ground.phase }, { on := 2, ground := Ground.phase }, { on := 3, ground := Ground.phase }, { on := 4, ground := Ground.phase }, { on := 5, ground := Ground.phase }, { on := 6, ground := Ground.phase }], guard := none }) rfl (by kernel_rfl) (by rfl) ?_
 refine wp_rowS row_key (.tmp 2) (.tmp 9) rfl rfl rfl (vs := [.int .i64 a1, .string ⟨List.toArray D⟩]) rfl (by simp [Value.oneCell']) (us := [.int .i64 0, .string ⟨List.toArray []⟩]) rfl KX ?_
 intro w3 N3 m3
 refine ⟨hS.trans m3, ?_⟩
 replace hS := hS.trans m3
 try simp only [pna, pnb, pnc, pnd, pne]
 refine wpAnyH_done (by kernel_rfl) ?_ _
 go_wp2_with fail
 refine bodyPost_ret (results_cell1 rfl _ _ _ _ rfl (row_loadVar row_key _ rfl N3)) rfl ?_
 exact ⟨rfl, Below.mod hb1 hS hb1.size (by simp)⟩
end Go.Proofs.YthkpmlfaddlieaaGreatDoor
namespace Go.Proofs.YthkpmlfaddlieaaGreatDoor
open Go.RowKit Pl
section
variable {w w' : World} {b b1 b2 s s1 s2 n m : Nat} {e e1 e2 : TypeId} {u v : Value} {xs ys : List Value}
theorem row_ltO (h : w.ownsRow b e s v n xs) {k : Nat} (hk : v.ownBlock = some k) : b ≤ k ∧ k < w.heap.size := by
 rcases h.2 with ⟨rfl, _⟩ | ⟨g, cap, cur, rfl, h1, h2, _⟩
 ·cases hk
 ·cases hk
  refine ⟨h1, ?_⟩
  rcases Nat.lt_or_ge g w.heap.size with hlt | hge
  ·exact hlt
  ·rw [Array.getElem?_eq_none hge] at h2; cases h2
theorem row_lowO (h : w.ownsRow b e s v n xs) {c : Nat} (hc : c ≤ b) : w.ownsRow c e s v n xs := by
 refine ⟨h.1, h.2.imp id ?_⟩
 rintro ⟨g, cap, cur, hv, h1, h2⟩
 exact ⟨g, cap, cur, hv, Nat.le_trans hc h1, h2⟩
theorem row_openO (h : w.ownsRow b e s v n xs) : (v = .slice none 0 0 ∧ n = 0) ∨ ∃ g cap, v = .slice (some ⟨g, 0, none⟩) n cap ∧ b ≤ g ∧ g < w.heap.size ∧ n ≤ cap ∧ cap ≤ maxLen ∧ (∀ j, j < n * s → w.cell? ⟨g, j, none⟩ = xs[j]?) ∧ (∀ o, w.frozen? ⟨g, o, none⟩ = false) := by
 rcases h.2 with ⟨h1, h0⟩ | ⟨g, cap, cur, rfl, h1, h2, h3, h4, h5, h6⟩
 ·exact .inl ⟨h1, h0⟩
 ·refine .inr ⟨g, cap, rfl, h1, (row_ltO h rfl).2, h3, h4, fun j hj => ?_, fun o => ?_⟩
  ·rw [← h6, List.getElem?_take, if_pos hj]
   simp [World.cell?, h2]
  ·simp [World.frozen?, h2]
end
section
variable {ops : Array Oper} {o : Oper} {rest : List Oper} {a : Act} {w : World} {Q : Exit → Act → World → Prop}
theorem wp_appGo {K : Act → World → Prop} (s x : Operand) (T e : TypeId) (z : Value) (sz by0 : Nat) (hT : Tryz.prog.underlying T = some (.slice e))
  (hinfo : (Tryz.prog.info? e).map (fun i => (i.zero, i.size, i.bytes)) = some (some z, sz, by0)) (hz : z.cells.size = sz) (hsz : 0 < sz) (hby : by0 ≤ 1000)
  (ho : o.op = .call { callee := .builtin .append, args := #[s, x], argTypes := #[T, T] })
  (base n : Nat) (v : Value) (xs us : List Value) (hs : a.eval s = v) (hown : w.ownsRow base e sz v n xs) (hus : us.length = sz)
  (q : Nat) (hx : a.eval x = .slice (some ⟨q, 0, none⟩) 1 1) (hq : ∀ j u, us[j]? = some u → w.cell? ⟨q, j, none⟩ = some u) (hu : ∀ u ∈ us, u.oneCell' = true)
  (hlen : n ≤ 1000000) (hbase : base ≤ w.heap.size)
  (h : ∀ v' w', w'.ownsRow base e sz v' (n + 1) (xs ++ us) → w.grownBy w' v.ownBlock → (v'.ownBlock = v.ownBlock ∨ v'.ownBlock = some w.heap.size) → K (a.put o.dst v') w') : o.wp Tryz.prog a w K Q := by
 obtain ⟨i0, hi, hz0, hz1, hz2⟩ := info_parts hinfo
 obtain ⟨v', w', hr, k2, k3, _, k5⟩ := run_append_own_at (P := Tryz.prog) w base T o.type e i0 z sz by0 hT hi hz0 hz1 hz2 hz hsz v n xs hown ⟨q, 0, none⟩ 1 1 us (by simpa using hus)
  (fun j y hj => by have := hq j y hj; rw [Addr.add_lit, Nat.zero_add]; exact this) hu (by unfold maxLen; omega)
  (by have : (n + 1) * by0 ≤ (n + 1) * 1000 := Nat.mul_le_mul_left _ hby; omega) hbase
 unfold Oper.wp execOp
 simp only [ho, resolve, invoke, builtin, Sem.run_bind, Sem.run_pure, Result.andThen_ok, List.map_toArray, List.map_cons, List.map_nil, hs, hx, hr]
 exact h v' w' k2 k3 k5
end
theorem grown_modO {w w' : World} {r : Option Nat} (h : w.grownBy w' r) : Mod r.toList w w' :=
 ⟨h.os, h.tape, h.output, h.size, fun k hk hn => h.block k hk (fun e => hn (by rw [← e]; simp))⟩
end Go.Proofs.YthkpmlfaddlieaaGreatDoor
namespace Go.Proofs.YthkpmlfaddlieaaGreatDoor
open Go.RowKit Pl
def ISrc (w : World) (g o : Nat) (l : List It) : Prop := ∀ i, i < l.length → w.cell? ⟨g, o + i * 2, none⟩ = some (.string ⟨List.toArray ((l.getD i ([], [])).1)⟩) ∧ w.cell? ⟨g, o + i * 2 + 1, none⟩ = some (.string ⟨List.toArray ((l.getD i ([], [])).2)⟩)
def IL (w : World) (v : Value) (l : List It) : Prop :=
 ∃ a cap, v = .slice a l.length cap ∧ l.length ≤ cap ∧ cap ≤ maxLen ∧ (l ≠ [] → ∃ g off, a = some ⟨g, off, none⟩ ∧ g < w.heap.size ∧ ISrc w g off l)
theorem IL.keep {W w : World} {v : Value} {l : List It} (h : IL W v l) (hb : Below W.heap.size W w) : IL w v l := by
 obtain ⟨a, cap, h1, h2, h3, h4⟩ := h
 refine ⟨a, cap, h1, h2, h3, fun hl => ?_⟩
 obtain ⟨g, off, e, hg, hc⟩ := h4 hl
 exact ⟨g, off, e, Nat.lt_of_lt_of_le hg hb.size, fun i hi => ⟨(hb.cell (p := ⟨g, off + i * 2, none⟩) hg).trans (hc i hi).1, (hb.cell (p := ⟨g, off + i * 2 + 1, none⟩) hg).trans (hc i hi).2⟩⟩
theorem IL.form {w : World} {v : Value} {l : List It} (h : IL w v l) : ∃ a c, v = .slice a l.length c := by
 obtain ⟨a, cap, h1, _⟩ := h
 exact ⟨a, cap, h1⟩
theorem IL.small {w : World} {v : Value} {l : List It} (h : IL w v l) : l.length ≤ 9223372036854775807 := by
 obtain ⟨a, cap, h1, h2, h3, _⟩ := h
 unfold maxLen at h3; omega
theorem IL.at {w : World} {a : Option Addr} {c : Nat} {l : List It} (h : IL w (.slice a l.length c) l) (i : Nat) (hi : i < l.length) :
  ∃ g off, a = some ⟨g, off, none⟩ ∧ g < w.heap.size ∧ w.cell? ⟨g, off + i * 2, none⟩ = some (.string ⟨List.toArray ((l.getD i ([], [])).1)⟩) ∧ w.cell? ⟨g, off + i * 2 + 1, none⟩ = some (.string ⟨List.toArray ((l.getD i ([], [])).2)⟩) := by
 obtain ⟨a', cap, h1, _, _, h5⟩ := h
 injection h1 with h1 _ _
 obtain ⟨g, off, e, hg, hc⟩ := h5 (by intro e; rw [e] at hi; simp at hi)
 exact ⟨g, off, h1.trans e, hg, (hc i hi).1, (hc i hi).2⟩
namespace Pl
theorem takeI (l : List It) (i : Nat) (hi : i < l.length) : l.take (i + 1) = l.take i ++ [l.getD i ([], [])] := by
 rw [List.take_add_one, List.getElem?_eq_getElem hi, List.getD_eq_getElem?_getD, List.getElem?_eq_getElem hi]
 rfl
end Pl
theorem infoIt : (Tryz.prog.info? 203).map (fun i => (i.zero, i.size, i.bytes)) = some (some (.agg #[.string ⟨#[]⟩, .string ⟨#[]⟩]), 2, 32) := by kernel_rfl
def iv : List It → List Value
 | [] => []
 | x :: r => .string ⟨List.toArray x.1⟩ :: .string ⟨List.toArray x.2⟩ :: iv r
theorem iv_len (l : List It) : (iv l).length = l.length * 2 := by
 induction l with
 | nil => rfl
 | cons x r ih => simp only [iv, List.length_cons, ih]; omega
theorem iv_app (a b : List It) : iv (a ++ b) = iv a ++ iv b := by
 induction a with
 | nil => rfl
 | cons x r ih => simp [iv, ih]
theorem iv_at : ∀ (l : List It) (i : Nat), i < l.length → (iv l)[i * 2]? = some (.string ⟨List.toArray ((l.getD i ([], [])).1)⟩) ∧ (iv l)[i * 2 + 1]? = some (.string ⟨List.toArray ((l.getD i ([], [])).2)⟩)
 | x :: r, 0, _ => ⟨rfl, rfl⟩
 | x :: r, i + 1, hi => by
  have h := iv_at r i (by simpa using hi)
  rw [show (i + 1) * 2 = i * 2 + 1 + 1 from by omega]
  simpa [iv] using h
theorem ione : ∀ (l : List It), ∀ u ∈ iv l, u.oneCell' = true
 | [], u, h => by simp [iv] at h
 | x :: r, u, h => by
  simp only [iv, List.mem_cons] at h
  rcases h with rfl | rfl | h
  ·rfl
  ·rfl
  ·exact ione r u h
def IRow (w : World) (base : Nat) (v : Value) (l : List It) : Prop := w.ownsRow base 203 2 v l.length (iv l)
theorem IRow.nil (w : World) (base : Nat) : IRow w base (.slice none 0 0) [] := ⟨rfl, .inl ⟨rfl, rfl⟩⟩
theorem IRow.cells {w : World} {base : Nat} {v : Value} {l : List It} (h : IRow w base v l) :
  (v = .slice none 0 0 ∧ l = []) ∨ ∃ g cap, v = .slice (some ⟨g, 0, none⟩) l.length cap ∧ base ≤ g ∧ g < w.heap.size ∧ l.length ≤ cap ∧ cap ≤ maxLen ∧ ISrc w g 0 l ∧ ∀ o, w.frozen? ⟨g, o, none⟩ = false := by
 rcases h.2 with ⟨h1, h2⟩ | ⟨g, cap, cur, hv, hb, hg, hn, hm, hc, ht⟩
 ·exact .inl ⟨h1, List.length_eq_zero_iff.1 h2⟩
 ·refine .inr ⟨g, cap, hv, hb, ?_, hn, hm, fun i hi => ?_, fun o => ?_⟩
  ·rcases Nat.lt_or_ge g w.heap.size with hlt | hge
   ·exact hlt
   ·rw [Array.getElem?_eq_none hge] at hg; cases hg
  ·have h1 : ∀ j, j < l.length * 2 → w.cell? ⟨g, 0 + j, none⟩ = (iv l)[j]? := by
    intro j hj
    rw [← ht, List.getElem?_take, if_pos hj]
    simp [World.cell?, hg]
   obtain ⟨h2, h3⟩ := iv_at l i hi
   exact ⟨(h1 (i * 2) (by omega)).trans h2, (h1 (i * 2 + 1) (by omega)).trans h3⟩
  ·simp [World.frozen?, hg]
theorem IRow.form {w : World} {base : Nat} {v : Value} {l : List It} (h : IRow w base v l) : ∃ (a : Option Addr) (cap : Nat), v = .slice a l.length cap := by
 rcases h.cells with ⟨rfl, rfl⟩ | ⟨g, cap, rfl, _⟩
 ·exact ⟨none, 0, rfl⟩
 ·exact ⟨_, cap, rfl⟩
theorem IRow.own {w : World} {base : Nat} {v : Value} {l : List It} (h : IRow w base v l) : ∀ k, v.ownBlock = some k → base ≤ k := by
 intro k hk
 rcases h.cells with ⟨rfl, _⟩ | ⟨g, cap, rfl, hb, _⟩
 ·cases hk
 ·cases hk; exact hb
theorem IRow.il {w : World} {base : Nat} {v : Value} {l : List It} (h : IRow w base v l) : IL w v l := by
 rcases h.cells with ⟨rfl, rfl⟩ | ⟨g, cap, h1, h2, h3, h4, h5, h6, h7⟩
 ·exact ⟨none, 0, rfl, Nat.le_refl _, by unfold maxLen; omega, fun h => absurd rfl h⟩
 ·exact ⟨_, cap, h1, h4, h5, fun _ => ⟨g, 0, rfl, h3, h6⟩⟩
theorem IRow.kept {w w' : World} {base : Nat} {v : Value} {l : List It} (h : IRow w base v l) (hb : ∀ k, v.ownBlock = some k → w'.heap[k]? = w.heap[k]?) : IRow w' base v l := by
 refine ⟨h.1, h.2.imp id ?_⟩
 rintro ⟨g, cap, cur, hv, h1, h2, h3⟩
 subst hv
 exact ⟨g, cap, cur, rfl, h1, (hb g rfl).trans h2, h3⟩
theorem IRow.keep {W w : World} {b : Nat} {v : Value} {l : List It} (h : IRow W b v l) (hb : Below W.heap.size W w) : IRow w b v l := by
 refine h.kept (fun k hk => hb.block k ?_)
 rcases h.cells with ⟨rfl, _⟩ | ⟨g, cap, rfl, _, hg, _⟩
 ·cases hk
 ·cases hk; exact hg
theorem isrc1 (w : World) (n p : Bs) (t : TypeId) : ISrc (w.alloc (.cells #[.string ⟨List.toArray n⟩, .string ⟨List.toArray p⟩] t)) w.heap.size 0 [(n, p)] := by
 intro i hi
 have : i = 0 := by simp at hi; omega
 subst this
 exact ⟨by simp, by simp⟩
theorem isrc_news {w : World} {g o : Nat} {l : List It} (h : ISrc w g o l) : ∀ j u, (iv l)[j]? = some u → w.cell? ((⟨g, o, none⟩ : Addr).add j) = some u := by
 intro j u hj
 have hjl : j < l.length * 2 := by
  rcases Nat.lt_or_ge j (l.length * 2) with hlt | hge
  ·exact hlt
  ·rw [List.getElem?_eq_none (by rw [iv_len]; exact hge)] at hj; cases hj
 have hadd : (⟨g, o, none⟩ : Addr).add j = ⟨g, o + j, none⟩ := by unfold Addr.add; split <;> simp_all
 rw [hadd]
 obtain ⟨i, hi | hi⟩ : ∃ i, j = i * 2 ∨ j = i * 2 + 1 := ⟨j / 2, by omega⟩
 ·subst hi
  exact (h i (by omega)).1.trans (((iv_at l i (by omega)).1).symm.trans hj)
 ·subst hi
  have := (h i (by omega)).2
  rw [Nat.add_assoc] at this
  exact this.trans (((iv_at l i (by omega)).2).symm.trans hj)
section
variable {ops : Array Oper} {o : Oper} {a : Act} {w : World} {Q : Exit → Act → World → Prop}
theorem wp_appI {K : Act → World → Prop} (s x : Operand)
  (ho : o.op = .call { callee := .builtin .append, args := #[s, x], argTypes := #[38, 38] })
  (base : Nat) (v : Value) (l : List It) (hs : a.eval s = v) (hown : IRow w base v l)
  (g off m c : Nat) (news : List It) (hx : a.eval x = .slice (some ⟨g, off, none⟩) m c) (hm : news.length = m) (hsrc : ISrc w g off news)
  (hlen : l.length + m ≤ 1099511627000) (hbase : base ≤ w.heap.size)
  (h : ∀ v' w', IRow w' base v' (l ++ news) → Below base w w' → K (a.put o.dst v') w') : o.wp Tryz.prog a w K Q := by
 obtain ⟨i0, hi, hz0, hz1, hz2⟩ := info_parts infoIt
 refine wp_append_own w s x 38 ho base 203 i0 (.agg #[.string ⟨#[]⟩, .string ⟨#[]⟩]) 2 32 Tryz.underlying38 hi hz0 hz1 hz2 rfl (by decide) v l.length (iv l) hs hown ⟨g, off, none⟩ m c (iv news) hx (by rw [iv_len, hm]) (isrc_news hsrc) (ione news)
  (by unfold maxLen; omega) (by omega) hbase (fun v' w' h2 h3 _ => h v' w' ?_ (grown_below h3 hbase hown.own))
 unfold IRow
 rw [List.length_append, hm, iv_app]
 exact h2
theorem step_appI {K : Act → World → Prop} {E : Prop} (hgd : o.guard = none) (s x : Operand)
  (ho : o.op = .call { callee := .builtin .append, args := #[s, x], argTypes := #[38, 38] })
  (base : Nat) (v : Value) (l : List It) (hs : a.eval s = v) (hown : IRow w base v l)
  (g off m c : Nat) (news : List It) (hx : a.eval x = .slice (some ⟨g, off, none⟩) m c) (hm : news.length = m) (hsrc : ISrc w g off news)
  (hlen : l.length + m ≤ 1099511627000) (hbase : base ≤ w.heap.size)
  (h : ∀ v' w', IRow w' base v' (l ++ news) → Below base w w' → K (a.put o.dst v') w') :
  if Region.wanted o (yielded ops a.tmps) = true then Oper.wp Tryz.prog o a w K Q else E := by
 have hw : Region.wanted o (yielded ops a.tmps) = true := by simp [Region.wanted, hgd]
 rw [if_pos hw]
 exact wp_appI s x ho base v l hs hown g off m c news hx hm hsrc hlen hbase h
theorem wpList_appI {rest : List Oper} (hgd : o.guard = none) (s x : Operand)
  (ho : o.op = .call { callee := .builtin .append, args := #[s, x], argTypes := #[38, 38] })
  (base : Nat) (v : Value) (l : List It) (hs : a.eval s = v) (hown : IRow w base v l)
  (g off m c : Nat) (news : List It) (hx : a.eval x = .slice (some ⟨g, off, none⟩) m c) (hm : news.length = m) (hsrc : ISrc w g off news)
  (hlen : l.length + m ≤ 1099511627000) (hbase : base ≤ w.heap.size)
  (h : ∀ v' w', IRow w' base v' (l ++ news) → Below base w w' → wpList Tryz.prog ops Q rest (a.put o.dst v') w') : wpList Tryz.prog ops Q (o :: rest) a w :=
 wpList_plain hgd fun _ hK => wp_appI s x ho base v l hs hown g off m c news hx hm hsrc hlen hbase fun v' w' h2 h3 => hK _ _ (h v' w' h2 h3)
end
end Go.Proofs.YthkpmlfaddlieaaGreatDoor
namespace Go.Proofs.YthkpmlfaddlieaaGreatDoor
open Go.RowKit Go.Shelf Pl
structure Ent where
 head : Hd
 sum : Bs
 items : List It
 set : List (Bs × Int)
 next : List (Bs × Int)
structure EntX where
 e : Ent
 sk : Value
 it : Value
 st : Value
 nx : Value
def ecs (x : Ent) (sk it st nx : Value) : List Value :=
 [.int .i64 x.head.height, .int .i64 x.head.epoch, .int .i64 x.head.view, .bool x.head.last, .string ⟨List.toArray x.head.parent⟩, .string ⟨List.toArray x.head.state⟩, .string ⟨List.toArray x.head.receipts⟩, .string ⟨List.toArray x.head.txs⟩, .string ⟨List.toArray x.head.members⟩, .string ⟨List.toArray x.head.next⟩, sk, .string ⟨List.toArray x.sum⟩, .slice none 0 0, .slice none 0 0, it, st, nx]
def ecsX (y : EntX) : List Value := ecs y.e y.sk y.it y.st y.nx
def nilE : Value := .agg (ecs ⟨hdZ, [], [], [], []⟩ (.slice none 0 0) (.slice none 0 0) (.slice none 0 0) (.slice none 0 0)).toArray
theorem row_ent : RowT Tryz.prog 52 17 := RowT.mk' Tryz.underlying52 rfl (by kernel_rfl)
theorem infoEnt : (Tryz.prog.info? 52).map (fun i => (i.zero, i.size, i.bytes)) = some (some nilE, 17, 288) := by kernel_rfl
theorem ecsX_len (y : EntX) : (ecsX y).length = 17 := rfl
theorem ecsX_all : ∀ (cs : List EntX), (cs.flatMap ecsX).length = cs.length * 17
 | [] => rfl
 | y :: r => by rw [List.flatMap_cons, List.length_append, ecsX_len, ecsX_all r, List.length_cons]; omega
theorem ecsX_at : ∀ (cs : List EntX) (i j : Nat) (y : EntX), cs[i]? = some y → j < 17 → (cs.flatMap ecsX)[i * 17 + j]? = (ecsX y)[j]?
 | [], i, j, y, h, _ => by simp at h
 | x :: r, 0, j, y, h, hj => by
  simp only [List.getElem?_cons_zero, Option.some.injEq] at h
  subst h
  rw [List.flatMap_cons, Nat.zero_mul, Nat.zero_add, List.getElem?_append_left (by rw [ecsX_len]; exact hj)]
 | x :: r, i + 1, j, y, h, hj => by
  rw [List.getElem?_cons_succ] at h
  rw [List.flatMap_cons, List.getElem?_append_right (by rw [ecsX_len]; omega), ecsX_len, show (i + 1) * 17 + j - 17 = i * 17 + j from by omega]
  exact ecsX_at r i j y h hj
def EntAt (w : World) (y : EntX) : Prop := SS w y.sk y.e.head.skips ∧ IL w y.it y.e.items ∧ MS w y.st y.e.set ∧ MS w y.nx y.e.next
theorem EntAt.keep {W w : World} {y : EntX} (h : EntAt W y) (hb : Below W.heap.size W w) : EntAt w y := ⟨h.1.keep hb, h.2.1.keep hb, h.2.2.1.keep hb, h.2.2.2.keep hb⟩
theorem EntAt.one {w : World} {y : EntX} (h : EntAt w y) : ∀ u ∈ ecsX y, u.oneCell' = true := by
 obtain ⟨⟨e, sk, it, st, nx⟩, rfl⟩ : ∃ z, z = y := ⟨y, rfl⟩
 obtain ⟨h1, h2, h3, h4⟩ := h
 obtain ⟨a1, c1, r1⟩ := h1.form
 obtain ⟨a2, c2, r2⟩ := h2.form
 obtain ⟨a3, c3, r3⟩ := h3.form
 obtain ⟨a4, c4, r4⟩ := h4.form
 simp only at r1 r2 r3 r4
 subst r1 r2 r3 r4
 intro u hu
 simp only [ecsX, ecs, List.mem_cons, List.not_mem_nil, or_false] at hu
 rcases hu with rfl | rfl | rfl | rfl | rfl | rfl | rfl | rfl | rfl | rfl | rfl | rfl | rfl | rfl | rfl | rfl | rfl <;> rfl
def EL (w : World) (v : Value) (E : List Ent) : Prop :=
 ∃ cs : List EntX, cs.map (·.e) = E ∧ (∀ y ∈ cs, EntAt w y) ∧ ∃ a cap, v = .slice a E.length cap ∧ E.length ≤ cap ∧ cap ≤ maxLen ∧ (E ≠ [] → ∃ g off, a = some ⟨g, off, none⟩ ∧ g < w.heap.size ∧ w.rangeAt g off (cs.flatMap ecsX))
theorem EL.keep {W w : World} {v : Value} {E : List Ent} (h : EL W v E) (hb : Below W.heap.size W w) : EL w v E := by
 obtain ⟨cs, h1, h2, a, cap, h3, h4, h5, h6⟩ := h
 refine ⟨cs, h1, fun y hy => (h2 y hy).keep hb, a, cap, h3, h4, h5, fun hn => ?_⟩
 obtain ⟨g, off, e, hg, hr⟩ := h6 hn
 exact ⟨g, off, e, Nat.lt_of_lt_of_le hg hb.size, rg_keep hr hg hb⟩
theorem EL.form {w : World} {v : Value} {E : List Ent} (h : EL w v E) : ∃ a c, v = .slice a E.length c := by
 obtain ⟨cs, h1, h2, a, cap, h3, h4⟩ := h
 exact ⟨a, cap, h3⟩
theorem EL.at {w : World} {a : Option Addr} {c : Nat} {E : List Ent} (h : EL w (.slice a E.length c) E) (i : Nat) (x : Ent) (hi : E[i]? = some x) :
  ∃ g off sk it st nx, a = some ⟨g, off, none⟩ ∧ g < w.heap.size ∧ w.rangeAt g (off + i * 17) (ecs x sk it st nx) ∧ EntAt w ⟨x, sk, it, st, nx⟩ := by
 obtain ⟨cs, h1, h2, a2, cap, h3, h4, h5, h6⟩ := h
 injection h3 with e1 _ _
 subst e1
 obtain ⟨g, off, e, hg, hr⟩ := h6 (by intro e; subst e; simp at hi)
 rw [← h1, List.getElem?_map] at hi
 obtain ⟨y, hy, rfl⟩ := Option.map_eq_some_iff.1 hi
 refine ⟨g, off, y.sk, y.it, y.st, y.nx, e, hg, rg_sub hr (i * 17) (fun j u hj => ?_), h2 y (List.mem_of_getElem? hy)⟩
 have hj17 : j < 17 := by have := (List.getElem?_eq_some_iff.1 hj).1; simpa [ecs] using this
 rw [ecsX_at cs i j y hy hj17]
 exact hj
section
variable {ops : Array Oper} {o : Oper} {rest : List Oper} {a : Act} {w : World} {Q : Exit → Act → World → Prop}
theorem wp_appGm {K : Act → World → Prop} (s x : Operand) (T e : TypeId) (z : Value) (sz by0 : Nat) (hT : Tryz.prog.underlying T = some (.slice e))
  (hinfo : (Tryz.prog.info? e).map (fun i => (i.zero, i.size, i.bytes)) = some (some z, sz, by0)) (hz : z.cells.size = sz) (hsz : 0 < sz) (hby : by0 ≤ 1000)
  (ho : o.op = .call { callee := .builtin .append, args := #[s, x], argTypes := #[T, T] })
  (base n : Nat) (v : Value) (xs us : List Value) (hs : a.eval s = v) (hown : w.ownsRow base e sz v n xs) (q off m c : Nat) (hus : us.length = m * sz)
  (hx : a.eval x = .slice (some ⟨q, off, none⟩) m c) (hq : w.rangeAt q off us) (hu : ∀ u ∈ us, u.oneCell' = true)
  (hlen : n + m ≤ 1000000) (hbase : base ≤ w.heap.size)
  (h : ∀ v' w', w'.ownsRow base e sz v' (n + m) (xs ++ us) → w.grownBy w' v.ownBlock → (v'.ownBlock = v.ownBlock ∨ v'.ownBlock = some w.heap.size) → K (a.put o.dst v') w') : o.wp Tryz.prog a w K Q := by
 obtain ⟨i0, hi, hz0, hz1, hz2⟩ := info_parts hinfo
 obtain ⟨v', w', hr, k2, k3, _, k5⟩ := run_append_own_at (P := Tryz.prog) w base T o.type e i0 z sz by0 hT hi hz0 hz1 hz2 hz hsz v n xs hown ⟨q, off, none⟩ m c us (by simpa using hus)
  (fun j y hj => by have := hq j y hj; rw [Addr.add_lit]; exact this) hu (by unfold maxLen; omega)
  (by have : (n + m) * by0 ≤ (n + m) * 1000 := Nat.mul_le_mul_left _ hby; omega) hbase
 unfold Oper.wp execOp
 simp only [ho, resolve, invoke, builtin, Sem.run_bind, Sem.run_pure, Result.andThen_ok, List.map_toArray, List.map_cons, List.map_nil, hs, hx, hr]
 exact h v' w' k2 k3 k5
theorem wpList_appGm (hgd : o.guard = none) (s x : Operand) (T e : TypeId) (z : Value) (sz by0 : Nat) (hT : Tryz.prog.underlying T = some (.slice e))
  (hinfo : (Tryz.prog.info? e).map (fun i => (i.zero, i.size, i.bytes)) = some (some z, sz, by0)) (hz : z.cells.size = sz) (hsz : 0 < sz) (hby : by0 ≤ 1000)
  (ho : o.op = .call { callee := .builtin .append, args := #[s, x], argTypes := #[T, T] })
  (base n : Nat) (v : Value) (xs us : List Value) (hs : a.eval s = v) (hown : w.ownsRow base e sz v n xs) (q off m c : Nat) (hus : us.length = m * sz)
  (hx : a.eval x = .slice (some ⟨q, off, none⟩) m c) (hq : w.rangeAt q off us) (hu : ∀ u ∈ us, u.oneCell' = true)
  (hlen : n + m ≤ 1000000) (hbase : base ≤ w.heap.size)
  (h : ∀ v' w', w'.ownsRow base e sz v' (n + m) (xs ++ us) → w.grownBy w' v.ownBlock → (v'.ownBlock = v.ownBlock ∨ v'.ownBlock = some w.heap.size) → wpList Tryz.prog ops Q rest (a.put o.dst v') w') : wpList Tryz.prog ops Q (o :: rest) a w :=
 wpList_plain hgd fun _ hK => wp_appGm s x T e z sz by0 hT hinfo hz hsz hby ho base n v xs us hs hown q off m c hus hx hq hu hlen hbase fun v' w' h2 h3 h4 => hK _ _ (h v' w' h2 h3 h4)
end
theorem EL.of_row {w : World} {base : Nat} {v : Value} {cs : List EntX} (hr : w.ownsRow base 52 17 v cs.length (cs.flatMap ecsX)) (h : ∀ y ∈ cs, EntAt w y) : EL w v (cs.map (·.e)) := by
 refine ⟨cs, rfl, h, ?_⟩
 rw [List.length_map]
 rcases row_openO hr with ⟨e, h0⟩ | ⟨g, cap, e, k1, k2, k3, k4, k5, k6⟩
 ·have : cs = [] := List.length_eq_zero_iff.1 h0
  subst this
  exact ⟨none, 0, e, Nat.le_refl _, by unfold maxLen; omega, fun h => absurd rfl h⟩
 ·refine ⟨_, cap, e, k3, k4, fun _ => ⟨g, 0, rfl, k2, fun j u hj => ?_⟩⟩
  have hjl := (List.getElem?_eq_some_iff.1 hj).1
  rw [ecsX_all] at hjl
  rw [Nat.zero_add, k5 j hjl]
  exact hj
end Go.Proofs.YthkpmlfaddlieaaGreatDoor
