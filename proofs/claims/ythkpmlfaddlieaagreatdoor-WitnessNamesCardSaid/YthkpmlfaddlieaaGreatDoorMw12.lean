/- MRef, RefF, ListP, RefH. -/
import Derived.Test.YthkpmlfaddlieaaGreatDoorMw11
set_option linter.unnecessarySimpa false
set_option linter.unusedSimpArgs false
set_option linter.unusedVariables false
set_option maxRecDepth 100000
set_option maxHeartbeats 32000000
namespace Go.Proofs.YthkpmlfaddlieaaGreatDoor
open Go.RowKit Pl
theorem drewN_two (w : World) (q n : Nat) : (w.drewN q).drewN n = w.drewN (q + n) := by
 first | exact World.drewN_drewN _ _ _ | simp
theorem leS_nil (z : Bs) : leS [] z = true := by
 cases z <;> simp [leS, Op.bytesLess]
theorem leS_zero (n : Bs) (h : n ≠ []) : leS n [] = false := by
 cases n with
 | nil => exact absurd rfl h
 | cons a r => simp [leS, Op.bytesLess]
theorem rmcheck_any (v : Value) (l : List (Bs × Int)) (w : World) (hv : MS w v l) :
  Calls Tryz.prog 97 #[v] w fun e w' => e = .returned (.int .i64 (setI (chkM l))) ∧ ∃ n, w' = w.drewN n := by
 generalize hr : setI (chkM l) = r
 have HR := Lib.hid hr
 clear hr
 obtain ⟨a, c, rfl⟩ := hv.form
 have hm := hv.small
 have HV := Lib.hid hv
 by_cases h0 : l.length = 0
 ·rw [h0]
  clear HV hv
  go_enter Tryz.func97, Tryz.ntmps97
  go_wp2_with fail
  all_goals (go_ret; refine ⟨?_, 0, rfl⟩; rw [← HR.out]; simp [chkM, h0, setI])
 ·by_cases h7 : 7 < l.length
  ·have hd : decide ((7 : Int) < (l.length : Int)) = true := by simp; omega
   have hd0 : decide ((l.length : Int) < 1) = false := by simp; omega
   clear HV hv
   go_enter Tryz.func97, Tryz.ntmps97
   go_wp2_with fail
   all_goals (go_ret; refine ⟨?_, 0, rfl⟩; rw [← HR.out]; have : ¬ l.length ≤ 7 := (by omega); simp [chkM, this, setI])
  ·have hd : decide ((7 : Int) < (l.length : Int)) = false := by simp; omega
   have hd0 : decide ((l.length : Int) < 1) = false := by simp; omega
   have HR2 : Hid (setI (okM [] l) = r) := Lib.hid (by rw [← HR.out]; have : l.length ≤ 7 := (by omega); simp [chkM, this, h0])
   clear HR hv h0
   go_enter Tryz.func97, Tryz.ntmps97
   go_wp2_with fail
   go_loopw [3] (fun s3 wr => ∃ i : Nat, i ≤ l.length ∧ s3 = .int .i64 i ∧ Hid (setI (okM (lastN l i) (l.drop i)) = r) ∧ ∃ q, wr = w.drewN q) (fun s3 _ => l.length - (intOf s3).toNat)
   case atStart => exact ⟨0, by omega, rfl, HR2, 0, rfl⟩
   case round =>
    obtain ⟨i, hi, rfl, HI, q, rfl⟩ := hrel
    by_cases hlt : i < l.length
    ·have hlt' : (i : Int) < (l.length : Int) := by omega
     obtain ⟨g, off, rfl, hg, c1, c2⟩ := HV.out.at i hlt
     have hi2 := HI.out
     rw [drop_getD l i hlt] at hi2
     have hnx : lastN l (i + 1) = (l.getD i ([], 0)).1 := rfl
     generalize hx : l.getD i ([], 0) = x at *
     obtain ⟨n, p⟩ := x
     simp only at c1 c2 hnx
     unfold okM at hi2
     by_cases hne : n = []
     ·subst hne
      rw [leS_nil] at hi2
      have HI2 : Hid (50 = r) := Lib.hid (by rw [← hi2]; simp [setI])
      clear HI hi2 HR2
      go_wp2_with fail
      all_goals (go_ret; refine ⟨?_, q, rfl⟩; rw [← HI2.out]; rfl)
     ·have hn1 : 0 < n.length := List.length_pos_iff.2 hne
      have hn2 : decide ((n.length : Int) < 1) = false := by simp; omega
      have hn3 : ¬ ((n.length : Int) < 1) := by omega
      cases hb : decide ((6 : Int) < (n.length : Int)) || decide (p < 1) || decide (1000 < p)
      ·simp only [Bool.or_eq_false_iff] at hb
       obtain ⟨⟨e1, e2⟩, e3⟩ := hb
       rw [e1, e2, e3] at hi2
       by_cases hi0 : i = 0
       ·subst hi0
        have hz : lastN l 0 = [] := rfl
        rw [hz, leS_zero n hne] at hi2
        have HI2 : Hid (setI (okM n (l.drop 1)) = r) := Lib.hid (by rw [← hi2]; simp)
        clear HI hi2 HR2 hz
        rw [Nat.zero_mul, Nat.add_zero] at c1 c2
        go_wp2_with fail
        go_quiet (fail)
        go_wp2_with fail
        exact ⟨⟨1, by omega, by go_num, by rw [hnx]; exact HI2, _, rfl⟩, by simp [intOf]; omega⟩
       ·obtain ⟨j, hj⟩ : ∃ j, i = j + 1 := ⟨i - 1, by omega⟩
        obtain ⟨g', off', hgo, hg', c3, c4⟩ := HV.out.at j (by omega)
        injection hgo with hgo
        injection hgo with hgo1 hgo2
        subst hgo1 hgo2
        have hz : lastN l i = (l.getD j ([], 0)).1 := by rw [hj]; rfl
        rw [← hz] at c3
        have q1 : IntKind.i64.wrap ((i : Int) - 1) = (j : Int) := by rw [show (i : Int) - 1 = (j : Int) from by omega]; exact IntWalk.i64_in _ (by omega)
        have q2 : (j : Int) < (l.length : Int) := by omega
        have q3 : decide ((0 : Int) < (i : Int)) = true := by rw [decide_eq_true_iff]; omega
        have q4 : (0 : Int) < (i : Int) := by omega
        have q5 : 0 < i := by omega
        have q6 : ¬ i = 0 := hi0
        generalize lastN l i = z at *
        clear c4 HI HR2 hj hz
        cases hle : leS n z
        ·rw [hle] at hi2
         have HI2 : Hid (setI (okM n (l.drop (i + 1))) = r) := Lib.hid (by rw [← hi2]; simp)
         clear hi2
         go_wp2_with fail
         go_quiet (fail)
         go_wp2_with fail
         exact ⟨⟨i + 1, by omega, by go_num, by rw [hnx]; exact HI2, _, rfl⟩, by simp [intOf]; omega⟩
        ·rw [hle] at hi2
         have HI2 : Hid (50 = r) := Lib.hid (by rw [← hi2]; simp [setI])
         clear hi2
         go_wp2_with fail
         go_quiet (fail)
         go_wp2_with fail
         all_goals (go_ret; refine ⟨?_, _, drewN_two _ _ _⟩; rw [← HI2.out]; rfl)
      ·have HI2 : Hid (50 = r) := Lib.hid (by
        rw [← hi2]
        simp only [Bool.or_eq_true] at hb
        rcases hb with (hb | hb) | hb <;> rw [hb] <;> simp [setI])
       clear hi2 HI HR2
       go_wp2_with fail
       all_goals (go_ret; refine ⟨?_, _, rfl⟩; rw [← HI2.out]; rfl)
    ·obtain rfl : i = l.length := by omega
     go_wp2_with fail
     all_goals (go_ret; refine ⟨?_, q, rfl⟩; rw [← HI.out]; simp [okM, setI])
theorem rmencode_any (v : Value) (l : List (Bs × Int)) (w : World) (hv : MS w v l) :
  Calls Tryz.prog 99 #[v] w fun e w' => e = .returned (.tuple #[.string ⟨List.toArray ((encMR l).1)⟩, .int .i64 ((encMR l).2)]) ∧ Below w.heap.size w w' := by
 generalize hr : encMR l = r
 have HR := Lib.hid hr
 clear hr
 obtain ⟨a, c, rfl⟩ := hv.form
 have hm := hv.small
 have hchk := rmcheck_any _ l w hv
 have HV := Lib.hid hv
 clear hv
 cases hc : chkM l
 ·rw [hc] at hchk
  have HC := Lib.hid hchk
  have HR2 : Hid (([], 50) = r) := Lib.hid (by rw [← HR.out]; simp [encMR, hc])
  clear hchk hc HR HV
  go_enter Tryz.func99, Tryz.ntmps99
  go_wp2_with fail
  refine HC.out.mono ?_
  rintro e w1 ⟨rfl, q, rfl⟩
  unfold setI
  go_wp2_with fail
  all_goals (go_ret2; refine ⟨?_, below_drewN (Below.refl _ _) _⟩; rw [← HR2.out]; rfl)
 ·rw [hc] at hchk
  have HC := Lib.hid hchk
  have HR2 : Hid ((encM l, 0) = r) := Lib.hid (by rw [← HR.out]; simp [encMR, hc])
  simp only [chkM, Bool.and_eq_true, decide_eq_true_eq] at hc
  have h7 := hc.1.2
  have HO := Lib.hid (okM_at l [] hc.2)
  have HB := Lib.hid (memsB_len l (fun i hi => (HO.out i hi).1))
  clear hchk hc HR
  go_enter Tryz.func99, Tryz.ntmps99
  go_wp2_with fail
  refine HC.out.mono ?_
  rintro e w1 ⟨rfl, q, rfl⟩
  unfold setI
  go_wp2_with fail
  refine (rNumber_any l.length (by omega) _).mono ?_
  rintro e w2 ⟨rfl, hb2⟩
  have hb3 : Below w.heap.size w w2 := (below_drewN (Below.refl _ _) _).trans (hb2.mono (by simp))
  go_wp2_with fail
  go_loopw [4, 5] (fun s4 s5 wr => ∃ i : Nat, i ≤ l.length ∧ s5 = .int .i64 i ∧ s4 = .string ⟨List.toArray (num l.length ++ memsB (l.take i))⟩ ∧ Below w.heap.size w wr) (fun _ s5 _ => l.length - (intOf s5).toNat)
  case atStart => exact ⟨0, by omega, rfl, by simp [memsB], hb3⟩
  case round =>
   obtain ⟨i, hi, rfl, rfl, hb⟩ := hrel
   obtain ⟨wq, h⟩ := Below.nm hb
   subst h
   by_cases hlt : i < l.length
   ·obtain ⟨g, off, rfl, hg, c1, c2⟩ := (HV.out.keep hb).at i hlt
    have hlt' : (i : Int) < (l.length : Int) := by omega
    obtain ⟨o1, o2, o3⟩ := HO.out i hlt
    have hB := HB.out i (by omega)
    have hnx : num l.length ++ memsB (l.take (i + 1)) = num l.length ++ memsB (l.take i) ++ (text (l.getD i ([], 0)).1 ++ num (l.getD i ([], 0)).2.toNat) := by
     rw [take_getD l i hlt, memsB_app, List.append_assoc]
    have hn9 := num_len l.length
    have hs9 : (num l.length ++ memsB (l.take i)).length ≤ 200 := by rw [List.length_append]; omega
    generalize hx : l.getD i ([], 0) = x at *
    obtain ⟨n, p⟩ := x
    simp only at c1 c2 hnx o1 o2 o3
    obtain ⟨m, rfl⟩ : ∃ m : Nat, p = m := ⟨p.toNat, by omega⟩
    rw [Int.toNat_natCast] at hnx
    generalize num l.length ++ memsB (l.take i) = s at *
    have hm9 := num_len m
    have ht9 : (text n).length ≤ 15 := by have := num_len n.length; simp only [text, List.length_append]; omega
    have hcat : ¬ 9223372036854775807 < s.length + (text n).length := by omega
    have hcat2 : ¬ 9223372036854775807 < s.length + (text n).length + (num m).length := by omega
    clear hx hB HB
    go_wp2_with fail
    refine wpH_start (by kernel_rfl) (fun hS => ?_)
    (refine hP 0 ?_ ⟨some 18, .move (.tmp 4), 9, "", #[], none⟩ hS ?_ ?_; rotate_left; focus (intro w; go_simp; try with_reducible rfl))
    try simp only [pna, pnb, pnc, pnd, pne]
    (refine hP 1 ?_ ⟨some 19, .move (.tmp 0), 23, "", #[], none⟩ hS ?_ ?_; rotate_left; focus (intro w; go_simp; try with_reducible rfl))
    try simp only [pna, pnb, pnc, pnd, pne]
    (refine hP 2 ?_ ⟨some 20, .move (.tmp 5), 3, "", #[], none⟩ hS ?_ ?_; rotate_left; focus (intro w; go_simp; try with_reducible rfl))
    try simp only [pna, pnb, pnc, pnd, pne]
    (refine hP 3 ?_ ⟨some 21, .indexAddr 23 (.tmp 19) (.tmp 20), 0, "", #[], none⟩ hS ?_ ?_; rotate_left; focus (intro w; go_simp; try with_reducible rfl))
    try simp only [pna, pnb, pnc, pnd, pne]
    (refine hP 4 ?_ ⟨some 22, .fieldAddr 77 (.tmp 21) 0, 0, "", #[], none⟩ hS ?_ ?_; rotate_left; focus (intro w; go_simp; try with_reducible rfl))
    try simp only [pna, pnb, pnc, pnd, pne]
    refine wpH_load 5 (.string ⟨List.toArray n⟩) (oi := { dst := some 23, op := Op.load 9 (Operand.tmp 22), type := 9, pos := "ref.go:119", after := #[{ on := 4, ground := Ground.data }], guard := none }) rfl (by kernel_rfl) (by kernel_rfl) (by kernel_rfl) (by rfl) hS (fun _ _ _ h => h) (fun w hb => (by have c := (hb.cell (p := ⟨g, off + i * 2, none⟩) hg).trans c1; go_simp; try rfl)) ?_
    try simp only [pna, pnb, pnc, pnd, pne]
    (refine hP 8 ?_ ⟨some 26, .move (.tmp 0), 23, "", #[], none⟩ hS ?_ ?_; rotate_left; focus (intro w; go_simp; try with_reducible rfl))
    try simp only [pna, pnb, pnc, pnd, pne]
    (refine hP 9 ?_ ⟨some 27, .move (.tmp 5), 3, "", #[], none⟩ hS ?_ ?_; rotate_left; focus (intro w; go_simp; try with_reducible rfl))
    try simp only [pna, pnb, pnc, pnd, pne]
    (refine hP 10 ?_ ⟨some 28, .indexAddr 23 (.tmp 26) (.tmp 27), 0, "", #[], none⟩ hS ?_ ?_; rotate_left; focus (intro w; go_simp; try with_reducible rfl))
    try simp only [pna, pnb, pnc, pnd, pne]
    (refine hP 11 ?_ ⟨some 29, .fieldAddr 77 (.tmp 28) 1, 0, "", #[], none⟩ hS ?_ ?_; rotate_left; focus (intro w; go_simp; try with_reducible rfl))
    try simp only [pna, pnb, pnc, pnd, pne]
    refine wpH_load 12 (.int .i64 m) (oi := { dst := some 30, op := Op.load 3 (Operand.tmp 29), type := 3, pos := "ref.go:119", after := #[{ on := 11, ground := Ground.data }], guard := none }) rfl (by kernel_rfl) (by kernel_rfl) (by kernel_rfl) (by rfl) hS (fun _ _ _ h => h) (fun w hb => (by have c := (hb.cell (p := ⟨g, off + i * 2 + 1, none⟩) hg).trans c2; go_simp; try rfl)) ?_
    try simp only [pna, pnb, pnc, pnd, pne]
    refine wpH_call 6 (oi := { dst := some 24, op := Op.call { callee := Callee.value (Operand.func 106), args := #[Operand.tmp 23], argTypes := #[9] }, type := 9, pos := "ref.go:119", after := #[{ on := 5, ground := Ground.data }], guard := none }) rfl (by kernel_rfl) (by rfl) (rText_any n (by omega) _) ?_ ?_
    ·(go_simp; try rfl)
    rintro e w' ⟨rfl, hbx⟩
    refine ⟨_, rfl, hS.trans (hbx.mono hS.size), ?_⟩
    replace hS := hS.trans (hbx.mono hS.size)
    try simp only [pna, pnb, pnc, pnd, pne]
    (refine hP 7 ?_ ⟨some 25, .binOp .add 9 (.tmp 18) (.tmp 24) 9, 9, "", #[], none⟩ hS ?_ ?_; rotate_left; focus (intro w; go_simp; try with_reducible rfl))
    try simp only [pna, pnb, pnc, pnd, pne]
    refine wpH_call 13 (oi := { dst := some 31, op := Op.call { callee := Callee.value (Operand.func 104), args := #[Operand.tmp 30], argTypes := #[3] }, type := 9, pos := "ref.go:119", after := #[{ on := 12, ground := Ground.data }, { on := 6, ground := Ground.chain }], guard := none }) rfl (by kernel_rfl) (by rfl) (rNumber_any m (by omega) _) ?_ ?_
    ·(go_simp; try rfl)
    rintro e w' ⟨rfl, hbx⟩
    refine ⟨_, rfl, hS.trans (hbx.mono hS.size), ?_⟩
    replace hS := hS.trans (hbx.mono hS.size)
    try simp only [pna, pnb, pnc, pnd, pne]
    (refine hP 14 ?_ ⟨some 32, .binOp .add 9 (.tmp 25) (.tmp 31) 9, 9, "", #[], none⟩ hS ?_ ?_; rotate_left; focus (intro w; go_simp; try with_reducible rfl))
    try simp only [pna, pnb, pnc, pnd, pne]
    (refine hP 15 ?_ ⟨some 4, .assign (.tmp 32), 9, "", #[], none⟩ hS ?_ ?_; rotate_left; focus (intro w; go_simp; try with_reducible rfl))
    try simp only [pna, pnb, pnc, pnd, pne]
    refine wpAnyH_done (by kernel_rfl) ?_ _
    go_wp2_with fail
    exact ⟨⟨i + 1, by omega, by go_num, by rw [hnx], hb.trans (hS.mono hb.size)⟩, by simp [intOf]; omega⟩
   ·obtain rfl : i = l.length := by omega
    go_wp2_with fail
    all_goals (go_ret2; refine ⟨?_, hb⟩; rw [← HR2.out]; simp [encM])
theorem rmdigest_any (v : Value) (l : List (Bs × Int)) (w : World) (hv : MS w v l) :
  Calls Tryz.prog 66 #[v] w fun e w' => e = .returned (.string ⟨List.toArray (dgM l)⟩) ∧ Below w.heap.size w w' := by
 generalize hd : dgM l = d
 have HD := Lib.hid hd
 clear hd
 obtain ⟨a, c, rfl⟩ := hv.form
 have hm := hv.small
 have hen := rmencode_any _ l w hv
 cases hc : chkM l
 ·rw [show encMR l = ([], 50) from by simp [encMR, hc]] at hen
  have HZ : Hid ([] = d) := Lib.hid (by rw [← HD.out]; simp [dgM, hc])
  have HE := Lib.hid hen
  clear hen hv HD hc
  go_enter Tryz.func66, Tryz.ntmps66
  go_wp2_with fail
  refine HE.out.mono ?_
  rintro e w1 ⟨rfl, hb⟩
  go_wp2_with fail
  all_goals (go_ret; refine ⟨?_, hb⟩; rw [← HZ.out]; rfl)
 ·rw [show encMR l = (encM l, 0) from by simp [encMR, hc]] at hen
  have HZ : Hid (tagP 4 (encM l) = d) := Lib.hid (by rw [← HD.out]; simp [dgM, hc])
  have hl := encM_len l hc
  have HE := Lib.hid hen
  clear hen hv HD hc
  generalize encM l = t at *
  go_enter Tryz.func66, Tryz.ntmps66
  go_wp2_with fail
  refine HE.out.mono ?_
  rintro e w1 ⟨rfl, hb⟩
  go_wp2_with fail
  refine (tagged_any 4 (by omega) t (by omega) _).mono ?_
  rintro e w2 ⟨rfl, hb2⟩
  go_wp2_with fail
  all_goals (go_ret; refine ⟨?_, hb.trans (hb2.mono hb.size)⟩; rw [← HZ.out]; rfl)
end Go.Proofs.YthkpmlfaddlieaaGreatDoor
namespace Go.Proofs.YthkpmlfaddlieaaGreatDoor
open Go.RowKit Pl
theorem rfflag_any (b : Bool) (w : World) : Calls Tryz.prog 105 #[.bool b] w fun e w' => e = .returned (.string ⟨List.toArray (flagB b)⟩) ∧ w' = w := by
 cases b
 ·go_enter Tryz.func105, Tryz.ntmps105
  go_wp2_with fail
  all_goals (go_ret; exact ⟨rfl, rfl⟩)
 ·go_enter Tryz.func105, Tryz.ntmps105
  go_wp2_with fail
  all_goals (go_ret; exact ⟨rfl, rfl⟩)
end Go.Proofs.YthkpmlfaddlieaaGreatDoor
namespace Go.Proofs.YthkpmlfaddlieaaGreatDoor
namespace Pl
def listB : List Bs → Bs
 | [] => []
 | x :: r => text x ++ listB r
def encS (l : List Bs) : Bs := num l.length ++ listB l
theorem listB_app (a : List Bs) (x : Bs) : listB (a ++ [x]) = listB a ++ text x := by
 induction a with
 | nil => simp [listB]
 | cons y r ih => simp [listB, ih, List.append_assoc]
theorem takeS (l : List Bs) (i : Nat) (hi : i < l.length) : l.take (i + 1) = l.take i ++ [l.getD i []] := by
 rw [List.take_add_one, List.getElem?_eq_getElem hi, List.getD_eq_getElem?_getD, List.getElem?_eq_getElem hi]
 rfl
theorem listB_len (l : List Bs) (m : Nat) (h : ∀ i, i < l.length → (l.getD i []).length ≤ m) : ∀ k, k ≤ l.length → (listB (l.take k)).length ≤ (m + 9) * k
 | 0, _ => by simp [listB]
 | k + 1, hk => by
  have h1 := listB_len l m h k (by omega)
  have h2 := h k (by omega)
  rw [takeS l k (by omega), listB_app]
  have h4 := text_len (l.getD k [])
  simp only [List.length_append]
  rw [Nat.mul_add]
  omega
end Pl
end Go.Proofs.YthkpmlfaddlieaaGreatDoor
namespace Go.Proofs.YthkpmlfaddlieaaGreatDoor
open Go.RowKit Pl
theorem rlinks_any (h : Int) (w : World) :
  Calls Tryz.prog 103 #[.int .i64 h] w fun e w' => ∃ v, e = .returned v ∧ ZRow w' w.heap.size v (linksF h) ∧ Below w.heap.size w w' := by
 by_cases h1 : h < 1
 ·have d1 : decide (h < 1) = true := by simpa using h1
  rw [linksF_out (.inl h1)]
  clear h1
  go_enter Tryz.func103, Tryz.ntmps103
  go_wp2_with fail
  all_goals (go_ret; exact ⟨_, rfl, ZRow.nil _ _, Below.refl _ _⟩)
 ·have d1 : decide (h < 1) = false := by simpa using h1
  by_cases h2 : 1048576 < h
  ·have d2 : decide (1048576 < h) = true := by simpa using h2
   rw [linksF_out (.inr h2)]
   clear h1 h2
   go_enter Tryz.func103, Tryz.ntmps103
   go_wp2_with fail
   all_goals (go_ret; exact ⟨_, rfl, ZRow.nil _ _, Below.refl _ _⟩)
  ·have d2 : decide (1048576 < h) = false := by simpa using h2
   obtain ⟨n, rfl⟩ : ∃ n : Nat, h = n := ⟨h.toNat, by omega⟩
   rw [linksF_in (by omega) (by omega)]
   rw [show ((n : Int)).toNat = n from rfl]
   go_enter Tryz.func103, Tryz.ntmps103
   go_wp2_with fail
   go_loopw [3, 4] (fun s3 s4 wr => ∃ k : Nat, s4 = .int .i64 ((k + 1 : Nat)) ∧ k ≤ 20 ∧ ZRow wr w.heap.size s3 (linksTo n k) ∧ Below w.heap.size w wr) (fun _ s4 _ => 21 - (intOf s4).toNat)
   case atStart => exact ⟨0, rfl, by omega, ZRow.nil _ _, Below.refl _ _⟩
   case round =>
    obtain ⟨k, rfl, hk, hr, hb⟩ := hrel
    obtain ⟨va, vc, rfl⟩ := hr.form
    have hll := links_len n k
    by_cases hlt : k < 20
    ·have i1 : decide (((k + 1 : Nat) : Int) ≤ 20) = true := by simp; omega
     have HLY := Lib.hid (fun h => linksTo_yes (h := n) (k := k) h)
     have HLN := Lib.hid (fun h => linksTo_no (h := n) (k := k) h)
     generalize linksTo n k = L at *
     have hp20 : (2 : Nat) ^ (k + 1) ≤ 2 ^ 20 := Nat.pow_le_pow_right (by omega) (by omega)
     have hp0 := Nat.pow_pos (n := k + 1) (show 0 < 2 by omega)
     have hpc : ((2 : Int) ^ (k + 1)) = ((2 ^ (k + 1) : Nat) : Int) := by simp
     have hw1 : wrap64 ((2 : Int) ^ (k + 1)) = ((2 ^ (k + 1) : Nat) : Int) := by rw [hpc, ← IntWalk.i64_left, IntWalk.i64_in _ (by omega)]
     generalize (2 : Nat) ^ (k + 1) = s at *
     have hw2 : wrap64 ((n : Int) - (s : Int)) = (n : Int) - (s : Int) := by rw [← IntWalk.i64_left, IntWalk.i64_in _ (by omega)]
     have HLL := Lib.hid hll
     have HR := Lib.hid hr
     clear hll hr hpc
     have hmc : (n : Int) % (s : Int) = ((n % s : Nat) : Int) := by simp
     by_cases hm : n % s = 0
     ·have HL2 := Lib.hid (HLY.out hm)
      rw [hm] at hmc
      have e1 : ((n : Int) % (s : Int) == 0) = true := by rw [hmc]; rfl
      clear hm hmc HLY HLN
      go_wp2_with (at_builtin; refine wpList_appZ rfl (.tmp 21) (.tmp 27) rfl w.heap.size _ L rfl (HR.out.alloc _) _ 0 1 1 [(n : Int) - (s : Int)] rfl rfl (zsrc1 _ _ _) (by have := HLL.out; omega) (by have := hb.size; simp; omega) ?_; rintro v2 w2' hS2 hb2)
      have hb3 : Below w.heap.size w w2' := (Below.allocS hb _).trans hb2
      refine ⟨⟨k + 1, by go_num, by omega, by rw [HL2.out]; exact hS2, hb3⟩, by simp [intOf]; omega⟩
     ·have HL2 := Lib.hid (HLN.out hm)
      have e1 : ((n : Int) % (s : Int) == 0) = false := by rw [hmc, beq_eq_false_iff_ne]; omega
      clear hm hmc HLY HLN
      go_wp2_with fail
      refine ⟨⟨k + 1, by go_num, by omega, by rw [HL2.out]; exact HR.out, hb⟩, by simp [intOf]; omega⟩
    ·obtain rfl : k = 20 := by omega
     go_wp2_with fail
     all_goals (go_ret; exact ⟨_, rfl, hr, hb⟩)
theorem fineHR_p {h : Hd} (hf : fineHR h = true) : (0 ≤ h.height ∧ h.height ≤ 1048576) ∧ (0 ≤ h.epoch ∧ h.epoch ≤ 1048576) ∧ (0 ≤ h.view ∧ h.view ≤ 1048576) ∧ h.txs.length = 32 ∧ h.members.length = 32 ∧ h.next.length = 32 ∧ (h.state = [] ∨ h.state.length = 32) ∧ (h.receipts = [] ∨ h.receipts.length = 32) ∧ h.skips.length = (linksF h.height).length ∧ ∀ s ∈ h.skips, s.length = 32 := by
 unfold fineHR numsH inH endH may32 at hf
 simp only [Bool.and_eq_true, Bool.or_eq_true, decide_eq_true_eq, List.all_eq_true] at hf
 obtain ⟨⟨⟨⟨h1, h2⟩, h3⟩, h4⟩, h5⟩ := hf
 exact ⟨h1.1.1, h1.1.2, h1.2, h2.1.1.1.1, h2.1.1.1.2, h2.1.1.2, h2.1.2, h2.2, h3, h4⟩
theorem all32_snoc {L : List Bs} {x : Bs} (h : ∀ y ∈ L, y.length = 32) (hx : x.length = 32) : ∀ y ∈ L ++ [x], y.length = 32 := by
 intro y hy
 rcases List.mem_append.1 hy with hy | hy
 ·exact h y hy
 ·rw [List.mem_singleton] at hy
  rw [hy]
  exact hx
theorem fineHR_of {h : Hd} (h1 : 0 ≤ h.height ∧ h.height ≤ 1048576) (h2 : 0 ≤ h.epoch ∧ h.epoch ≤ 1048576) (h3 : 0 ≤ h.view ∧ h.view ≤ 1048576) (h4 : h.txs.length = 32) (h5 : h.members.length = 32) (h6 : h.next.length = 32) (h7 : h.state = [] ∨ h.state.length = 32) (h8 : h.receipts = [] ∨ h.receipts.length = 32) (h9 : h.skips.length = (linksF h.height).length) (h10 : ∀ s ∈ h.skips, s.length = 32) :
  fineHR h = (if h.height = 0 then decide (h.parent = []) && decide (h.epoch = 0) && decide (h.view = 0) && h.last else decide (h.parent.length = 32) && (h.last || decide (h.next = h.members))) := by
 have e1 : numsH h = true := by
  unfold numsH inH
  simp only [Bool.and_eq_true, decide_eq_true_eq]
  exact ⟨⟨h1, h2⟩, h3⟩
 have e2 : endH h = true := by
  unfold endH may32
  simp only [Bool.and_eq_true, Bool.or_eq_true, decide_eq_true_eq]
  exact ⟨⟨⟨⟨h4, h5⟩, h6⟩, h7⟩, h8⟩
 have e3 : h.skips.all (fun s => decide (s.length = 32)) = true := by
  rw [List.all_eq_true]
  intro s hs
  simpa using h10 s hs
 unfold fineHR
 rw [e1, e2, e3, h9]
 simp
theorem rhfine_any (a1 a2 a3 : Int) (lb : Bool) (pa st rc tx me ne : Bs) (K : List Bs) (sk : Value) (w : World) (hk : SS w sk K) :
  Calls Tryz.prog 69 #[.agg #[.int .i64 a1, .int .i64 a2, .int .i64 a3, .bool lb, .string ⟨List.toArray pa⟩, .string ⟨List.toArray st⟩, .string ⟨List.toArray rc⟩, .string ⟨List.toArray tx⟩, .string ⟨List.toArray me⟩, .string ⟨List.toArray ne⟩, sk]] w fun e w' => e = .returned (.bool (fineHR ⟨a1, a2, a3, lb, pa, st, rc, tx, me, ne, K⟩)) ∧ Below w.heap.size w w' := by
 have hb0 : Below w.heap.size w (w.alloc (.cells #[.int .i64 a1, .int .i64 a2, .int .i64 a3, .bool lb, .string ⟨List.toArray pa⟩, .string ⟨List.toArray st⟩, .string ⟨List.toArray rc⟩, .string ⟨List.toArray tx⟩, .string ⟨List.toArray me⟩, .string ⟨List.toArray ne⟩, sk] 48)) := Below.allocS (Below.refl _ _) _
 have B0 : Blk (w.alloc (.cells #[.int .i64 a1, .int .i64 a2, .int .i64 a3, .bool lb, .string ⟨List.toArray pa⟩, .string ⟨List.toArray st⟩, .string ⟨List.toArray rc⟩, .string ⟨List.toArray tx⟩, .string ⟨List.toArray me⟩, .string ⟨List.toArray ne⟩, sk] 48)) w.heap.size #[.int .i64 a1, .int .i64 a2, .int .i64 a3, .bool lb, .string ⟨List.toArray pa⟩, .string ⟨List.toArray st⟩, .string ⟨List.toArray rc⟩, .string ⟨List.toArray tx⟩, .string ⟨List.toArray me⟩, .string ⟨List.toArray ne⟩, sk] := Blk.new _ _ _
 obtain ⟨ka, kc, rfl⟩ := hk.form
 have hsm := hk.small
 have HK := Lib.hid hk
 have HP := Lib.hid (fun hf => fineHR_p (h := ⟨a1, a2, a3, lb, pa, st, rc, tx, me, ne, K⟩) hf)
 have HO := Lib.hid (fun h1 h2 h3 h4 h5 h6 h7 h8 h9 h10 => fineHR_of (h := ⟨a1, a2, a3, lb, pa, st, rc, tx, me, ne, K⟩) h1 h2 h3 h4 h5 h6 h7 h8 h9 h10)
 have q1 := fun W => rlinks_any a1 W
 generalize fineHR ⟨a1, a2, a3, lb, pa, st, rc, tx, me, ne, K⟩ = R at *
 obtain ⟨b1, b2, b3⟩ := id B0
 clear hk
 by_cases c1 : a1 < 0
 ·have d1 : decide (a1 < 0) = true := by simpa using c1
  have HR : Hid (R = false) := Lib.hid (Bool.eq_false_iff.2 (fun hf => by have p := HP.out hf; simp only at p; omega))
  clear HP HO
  go_enter Tryz.func69, Tryz.ntmps69
  go_wp2_with fail
  all_goals (go_ret; rw [HR.out]; exact ⟨rfl, hb0⟩)
 have d1 : decide (a1 < 0) = false := by simpa using c1
 by_cases c2 : 1048576 < a1
 ·have d2 : decide (1048576 < a1) = true := by simpa using c2
  have HR : Hid (R = false) := Lib.hid (Bool.eq_false_iff.2 (fun hf => by have p := HP.out hf; simp only at p; omega))
  clear HP HO
  go_enter Tryz.func69, Tryz.ntmps69
  go_wp2_with fail
  all_goals (go_ret; rw [HR.out]; exact ⟨rfl, hb0⟩)
 have d2 : decide (1048576 < a1) = false := by simpa using c2
 by_cases c3 : a2 < 0
 ·have d3 : decide (a2 < 0) = true := by simpa using c3
  have HR : Hid (R = false) := Lib.hid (Bool.eq_false_iff.2 (fun hf => by have p := HP.out hf; simp only at p; omega))
  clear HP HO
  go_enter Tryz.func69, Tryz.ntmps69
  go_wp2_with fail
  all_goals (go_ret; rw [HR.out]; exact ⟨rfl, hb0⟩)
 have d3 : decide (a2 < 0) = false := by simpa using c3
 by_cases c4 : 1048576 < a2
 ·have d4 : decide (1048576 < a2) = true := by simpa using c4
  have HR : Hid (R = false) := Lib.hid (Bool.eq_false_iff.2 (fun hf => by have p := HP.out hf; simp only at p; omega))
  clear HP HO
  go_enter Tryz.func69, Tryz.ntmps69
  go_wp2_with fail
  all_goals (go_ret; rw [HR.out]; exact ⟨rfl, hb0⟩)
 have d4 : decide (1048576 < a2) = false := by simpa using c4
 by_cases c5 : a3 < 0
 ·have d5 : decide (a3 < 0) = true := by simpa using c5
  have HR : Hid (R = false) := Lib.hid (Bool.eq_false_iff.2 (fun hf => by have p := HP.out hf; simp only at p; omega))
  clear HP HO
  go_enter Tryz.func69, Tryz.ntmps69
  go_wp2_with fail
  all_goals (go_ret; rw [HR.out]; exact ⟨rfl, hb0⟩)
 have d5 : decide (a3 < 0) = false := by simpa using c5
 by_cases c6 : 1048576 < a3
 ·have d6 : decide (1048576 < a3) = true := by simpa using c6
  have HR : Hid (R = false) := Lib.hid (Bool.eq_false_iff.2 (fun hf => by have p := HP.out hf; simp only at p; omega))
  clear HP HO
  go_enter Tryz.func69, Tryz.ntmps69
  go_wp2_with fail
  all_goals (go_ret; rw [HR.out]; exact ⟨rfl, hb0⟩)
 have d6 : decide (1048576 < a3) = false := by simpa using c6
 by_cases c7 : tx.length = 32
 rotate_left
 ·have d7 : ((tx.length : Int) != 32) = true := by simp; omega
  have f7 : decide ((tx.length : Int) = 32) = false := by simp; omega
  have HR : Hid (R = false) := Lib.hid (Bool.eq_false_iff.2 (fun hf => by have p := HP.out hf; simp only at p; omega))
  clear HP HO
  go_enter Tryz.func69, Tryz.ntmps69
  go_wp2_with fail
  all_goals (go_ret; rw [HR.out]; exact ⟨rfl, hb0⟩)
 have d7 : ((tx.length : Int) != 32) = false := by simp; omega
 have f7 : decide ((tx.length : Int) = 32) = true := by simp; omega
 by_cases c8 : me.length = 32
 rotate_left
 ·have d8 : ((me.length : Int) != 32) = true := by simp; omega
  have f8 : decide ((me.length : Int) = 32) = false := by simp; omega
  have HR : Hid (R = false) := Lib.hid (Bool.eq_false_iff.2 (fun hf => by have p := HP.out hf; simp only at p; omega))
  clear HP HO
  go_enter Tryz.func69, Tryz.ntmps69
  go_wp2_with fail
  all_goals (go_ret; rw [HR.out]; exact ⟨rfl, hb0⟩)
 have d8 : ((me.length : Int) != 32) = false := by simp; omega
 have f8 : decide ((me.length : Int) = 32) = true := by simp; omega
 by_cases c9 : ne.length = 32
 rotate_left
 ·have d9 : ((ne.length : Int) != 32) = true := by simp; omega
  have f9 : decide ((ne.length : Int) = 32) = false := by simp; omega
  have HR : Hid (R = false) := Lib.hid (Bool.eq_false_iff.2 (fun hf => by have p := HP.out hf; simp only at p; omega))
  clear HP HO
  go_enter Tryz.func69, Tryz.ntmps69
  go_wp2_with fail
  all_goals (go_ret; rw [HR.out]; exact ⟨rfl, hb0⟩)
 have d9 : ((ne.length : Int) != 32) = false := by simp; omega
 have f9 : decide ((ne.length : Int) = 32) = true := by simp; omega
 by_cases c10 : st = [] ∨ st.length = 32
 rotate_left
 ·have d10 : ((st.length : Int) != 32) = true := by simp; intro h; exact c10 (.inr (by omega))
  have f10 : (st != []) = true := by simp; intro h; exact c10 (.inl h)
  have g10 : st.isEmpty = false := by simp; intro h; exact c10 (.inl h)
  have k10 : (st == []) = false := by simp; intro h; exact c10 (.inl h)
  have HR : Hid (R = false) := Lib.hid (Bool.eq_false_iff.2 (fun hf => by have p := HP.out hf; simp only at p; exact c10 p.2.2.2.2.2.2.1))
  clear HP HO
  go_enter Tryz.func69, Tryz.ntmps69
  go_wp2_with fail
  all_goals (go_ret; rw [HR.out]; exact ⟨rfl, hb0⟩)
 by_cases c11 : rc = [] ∨ rc.length = 32
 rotate_left
 ·have d11 : ((rc.length : Int) != 32) = true := by simp; intro h; exact c11 (.inr (by omega))
  have f11 : (rc != []) = true := by simp; intro h; exact c11 (.inl h)
  have g11 : rc.isEmpty = false := by simp; intro h; exact c11 (.inl h)
  have k11 : (rc == []) = false := by simp; intro h; exact c11 (.inl h)
  rcases c10 with rfl | c10
  ·have g0 := 0
   have HR : Hid (R = false) := Lib.hid (Bool.eq_false_iff.2 (fun hf => by have p := HP.out hf; simp only at p; exact c11 p.2.2.2.2.2.2.2.1))
   clear HP HO
   go_enter Tryz.func69, Tryz.ntmps69
   go_wp2_with fail
   all_goals (go_ret; rw [HR.out]; exact ⟨rfl, hb0⟩)
  ·have z1 : ((st.length : Int) != 32) = false := by simp; omega
   have z2 : (st != []) = true := by simp; intro h; rw [h] at c10; simp at c10
   have z3 : st.isEmpty = false := by simp; intro h; rw [h] at c10; simp at c10
   have z4 : (st == []) = false := by simp; intro h; rw [h] at c10; simp at c10
   have HR : Hid (R = false) := Lib.hid (Bool.eq_false_iff.2 (fun hf => by have p := HP.out hf; simp only at p; exact c11 p.2.2.2.2.2.2.2.1))
   clear HP HO
   go_enter Tryz.func69, Tryz.ntmps69
   go_wp2_with fail
   all_goals (go_ret; rw [HR.out]; exact ⟨rfl, hb0⟩)
 have hst : st = [] ∨ (st.length = 32 ∧ (st != []) = true ∧ (st == []) = false ∧ st.isEmpty = false ∧ ((st.length : Int) != 32) = false) := by
  rcases c10 with h | h
  ·exact .inl h
  ·exact .inr ⟨h, by simp; intro e; rw [e] at h; simp at h, by simp; intro e; rw [e] at h; simp at h, by simp; intro e; rw [e] at h; simp at h, by simp; omega⟩
 have hrc : rc = [] ∨ (rc.length = 32 ∧ (rc != []) = true ∧ (rc == []) = false ∧ rc.isEmpty = false ∧ ((rc.length : Int) != 32) = false) := by
  rcases c11 with h | h
  ·exact .inl h
  ·exact .inr ⟨h, by simp; intro e; rw [e] at h; simp at h, by simp; intro e; rw [e] at h; simp at h, by simp; intro e; rw [e] at h; simp at h, by simp; omega⟩
 have HL0 := Lib.hid (fun h9 h10 => HO.out ⟨show 0 ≤ a1 by omega, show a1 ≤ 1048576 by omega⟩ ⟨show 0 ≤ a2 by omega, show a2 ≤ 1048576 by omega⟩ ⟨show 0 ≤ a3 by omega, show a3 ≤ 1048576 by omega⟩ c7 c8 c9 c10 c11 h9 h10)
 simp only at HL0
 clear HO c10 c11 c7 c8 c9
 rcases hst with rfl | ⟨s1, s2, s3, s4, s5⟩ <;> rcases hrc with rfl | ⟨r1, r2, r3, r4, r5⟩
 all_goals
  go_enter Tryz.func69, Tryz.ntmps69
  go_wp2_with fail
  refine wpH_start (by kernel_rfl) (fun hS => ?_)
  (refine hP 0 ?_ ⟨some 70, .fieldAddr 48 (.tmp 1) 10, 0, "", #[], none⟩ hS ?_ ?_; rotate_left; focus (intro w; go_simp; try with_reducible rfl))
  try simp only [pna, pnb, pnc, pnd, pne]
  refine wpH_load 1 (.slice ka K.length kc) (oi := { dst := some 71, op := Op.load 24 (Operand.tmp 70), type := 24, pos := "ref.go:27", after := #[{ on := 0, ground := Ground.data }], guard := none }) rfl (by kernel_rfl) (by kernel_rfl) (by kernel_rfl) (by rfl) hS (fun _ _ _ h => h) (fun w hb2 => (by have c := (B0.keep hb2).cell 10; go_simp; try rfl)) ?_
  try simp only [pna, pnb, pnc, pnd, pne]
  (refine hP 2 ?_ ⟨some 72, .call { callee := .builtin .len, args := #[.tmp 71], argTypes := #[24] }, 3, "", #[], none⟩ hS ?_ ?_; rotate_left; focus (intro w; go_simp; try with_reducible rfl))
  try simp only [pna, pnb, pnc, pnd, pne]
  (refine hP 3 ?_ ⟨some 73, .fieldAddr 48 (.tmp 1) 0, 0, "", #[], none⟩ hS ?_ ?_; rotate_left; focus (intro w; go_simp; try with_reducible rfl))
  try simp only [pna, pnb, pnc, pnd, pne]
  refine wpH_load 4 (.int .i64 a1) (oi := { dst := some 74, op := Op.load 3 (Operand.tmp 73), type := 3, pos := "ref.go:27", after := #[{ on := 3, ground := Ground.data }], guard := none }) rfl (by kernel_rfl) (by kernel_rfl) (by kernel_rfl) (by rfl) hS (fun _ _ _ h => h) (fun w hb2 => (by have c := (B0.keep hb2).cell 0; go_simp; try rfl)) ?_
  try simp only [pna, pnb, pnc, pnd, pne]
  refine wpH_call 5 (oi := { dst := some 75, op := Op.call { callee := Callee.value (Operand.func 103), args := #[Operand.tmp 74], argTypes := #[3] }, type := 111, pos := "ref.go:27", after := #[{ on := 4, ground := Ground.data }], guard := none }) rfl (by kernel_rfl) (by rfl) (q1 _) ?_ ?_
  ·(go_simp; try rfl)
  rintro e w' ⟨zv, rfl, hz, hbx⟩
  refine ⟨_, rfl, hS.trans (hbx.mono hS.size), ?_⟩
  replace hS := hS.trans (hbx.mono hS.size)
  obtain ⟨za, zc, rfl⟩ := hz.form
  try simp only [pna, pnb, pnc, pnd, pne]
  (refine hP 6 ?_ ⟨some 76, .call { callee := .builtin .len, args := #[.tmp 75], argTypes := #[111] }, 3, "", #[], none⟩ hS ?_ ?_; rotate_left; focus (intro w; go_simp; try with_reducible rfl))
  try simp only [pna, pnb, pnc, pnd, pne]
  (refine hP 7 ?_ ⟨some 77, .binOp .neq 3 (.tmp 72) (.tmp 76) 3, 4, "", #[], none⟩ hS ?_ ?_; rotate_left; focus (intro w; go_simp; try with_reducible rfl))
  try simp only [pna, pnb, pnc, pnd, pne]
  refine wpAnyH_done (by kernel_rfl) ?_ _
  have hb2 := hb0.trans (hS.mono hb0.size)
  have B2 := B0.keep hS
  clear hS b1 b2 b3 hz q1
  obtain ⟨b1, b2, b3⟩ := id B2
  by_cases hlen : K.length = (linksF a1).length
  ·have hl2 : ((K.length : Int) != ((linksF a1).length : Int)) = false := by simp; omega
   have HLEN := Lib.hid hlen
   clear hlen
   go_wp2_with fail
   go_loopw [3] (fun s3 wr => ∃ i : Nat, s3 = .int .i64 i ∧ i ≤ K.length ∧ Hid (∀ x ∈ K.take i, x.length = 32) ∧ Blk wr w.heap.size _ ∧ Below w.heap.size w wr) (fun s3 _ => K.length - (intOf s3).toNat)
   case atStart => exact ⟨0, rfl, Nat.zero_le _, Lib.hid (by simp), B2, hb2⟩
   case round =>
    obtain ⟨i, rfl, hi, HA, Br, hbr⟩ := hrel
    clear B2 hb2 b1 b2 b3
    obtain ⟨b1, b2, b3⟩ := id Br
    by_cases hlt : i < K.length
    ·have i0 : 0 ≤ (i : Int) ∧ (i : Int) < (K.length : Int) := by omega
     obtain ⟨g, off, e1, hg, x1⟩ := (HK.out.keep hbr).at' i hlt
     subst e1
     have HTK := Lib.hid (takeS K i hlt)
     have hmem : K.getD i [] ∈ K := by rw [List.getD_eq_getElem?_getD, List.getElem?_eq_getElem hlt]; exact List.getElem_mem _
     have HMEM := Lib.hid hmem
     clear hmem
     generalize K.getD i [] = x at *
     by_cases hx : x.length = 32
     ·have hx2 : ((x.length : Int) != 32) = false := by simp; omega
      go_wp2_with fail
      refine ⟨⟨i + 1, by go_num, by omega, Lib.hid (by rw [HTK.out]; exact all32_snoc HA.out hx), Br, hbr⟩, by simp [intOf]; omega⟩
     ·have hx2 : ((x.length : Int) != 32) = true := by simp; omega
      have HR : Hid (R = false) := Lib.hid (Bool.eq_false_iff.2 (fun hf => by have p := HP.out hf; exact hx (p.2.2.2.2.2.2.2.2.2 x HMEM.out)))
      clear HP HL0
      go_wp2_with fail
      all_goals (go_ret; rw [HR.out]; exact ⟨rfl, hbr⟩)
    ·obtain rfl : i = K.length := by omega
     have hfin := HL0.out HLEN.out (by have := HA.out; rw [List.take_length] at this; exact this)
     clear HP HL0 HA hlt
     by_cases h0 : a1 = 0
     ·rw [if_pos h0] at hfin
      have z0 : (a1 == 0) = true := by simpa using h0
      by_cases h1 : pa = []
      ·subst h1
       by_cases h2 : a2 = 0
       ·have z1 : (a2 == 0) = true := by simpa using h2
        by_cases h3 : a3 = 0
        ·have z2 : (a3 == 0) = true := by simpa using h3
         have HF : Hid (R = lb) := Lib.hid (by rw [hfin, h2, h3]; simp)
         clear hfin
         go_wp2_with fail
         all_goals (go_ret; rw [HF.out]; exact ⟨rfl, hbr⟩)
        ·have z2 : (a3 == 0) = false := by simpa using h3
         have HF : Hid (R = false) := Lib.hid (by rw [hfin, h2]; simp [h3])
         clear hfin
         go_wp2_with fail
         all_goals (go_ret; rw [HF.out]; exact ⟨rfl, hbr⟩)
       ·have z1 : (a2 == 0) = false := by simpa using h2
        have HF : Hid (R = false) := Lib.hid (by rw [hfin]; simp [h2])
        clear hfin
        go_wp2_with fail
        all_goals (go_ret; rw [HF.out]; exact ⟨rfl, hbr⟩)
      ·have z1 : (pa == []) = false := by simpa using h1
       have z2 : pa.isEmpty = false := by simpa using h1
       have HF : Hid (R = false) := Lib.hid (by rw [hfin]; simp [h1])
       clear hfin
       go_wp2_with fail
       all_goals (go_ret; rw [HF.out]; exact ⟨rfl, hbr⟩)
     ·rw [if_neg h0] at hfin
      have z0 : (a1 == 0) = false := by simpa using h0
      by_cases h1 : pa.length = 32
      ·have z1 : ((pa.length : Int) == 32) = true := by simp; omega
       cases lb
       ·have HF : Hid (R = decide (ne = me)) := Lib.hid (by rw [hfin]; simp [h1])
        clear hfin
        by_cases h2 : ne = me
        ·have z2 : (ne == me) = true := by simpa using h2
         have z3 : decide (ne = me) = true := by simpa using h2
         rw [z3] at HF
         clear h2
         go_wp2_with fail
         all_goals (go_ret; rw [HF.out]; exact ⟨rfl, hbr⟩)
        ·have z2 : (ne == me) = false := by simpa using h2
         have z3 : decide (ne = me) = false := by simpa using h2
         rw [z3] at HF
         clear h2
         go_wp2_with fail
         all_goals (go_ret; rw [HF.out]; exact ⟨rfl, hbr⟩)
       ·have HF : Hid (R = true) := Lib.hid (by rw [hfin]; simp [h1])
        clear hfin
        go_wp2_with fail
        all_goals (go_ret; rw [HF.out]; exact ⟨rfl, hbr⟩)
      ·have z1 : ((pa.length : Int) == 32) = false := by simp; omega
       have HF : Hid (R = false) := Lib.hid (by rw [hfin]; simp [h1])
       clear hfin
       go_wp2_with fail
       all_goals (go_ret; rw [HF.out]; exact ⟨rfl, hbr⟩)
  ·have hl2 : ((K.length : Int) != ((linksF a1).length : Int)) = true := by simp; omega
   have HR : Hid (R = false) := Lib.hid (Bool.eq_false_iff.2 (fun hf => by have p := HP.out hf; exact hlen p.2.2.2.2.2.2.2.2.1))
   clear HP HL0 hlen
   go_wp2_with fail
   all_goals (go_ret; rw [HR.out]; exact ⟨rfl, hb2⟩)
end Go.Proofs.YthkpmlfaddlieaaGreatDoor
