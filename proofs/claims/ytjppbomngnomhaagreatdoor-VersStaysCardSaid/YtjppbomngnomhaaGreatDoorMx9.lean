/- Put, PutA, RowAt. -/
import Derived.Test.YtjppbomngnomhaaGreatDoorMx8
set_option linter.unnecessarySimpa false
set_option linter.unusedSimpArgs false
set_option linter.unusedVariables false
set_option maxRecDepth 100000
set_option maxHeartbeats 32000000
namespace Go.Proofs.YtjppbomngnomhaaGreatDoor
open Go.RowKit Pl
theorem pk_one (ps : Ps) : ∀ v ∈ pk ps, v.oneCell' = true := by
 intro v hv
 unfold pk at hv
 rw [List.mem_map] at hv
 obtain ⟨i, _, rfl⟩ := hv
 cases ps i <;> rfl
theorem load_ptr (w : World) (b o : Nat) (p : Option Nat) (h : w.cell? ⟨b, o, none⟩ = some (ptV p)) : (loadVar 66 ⟨b, o, none⟩).run Tryz.prog w = .ok (ptV p) w := by
 cases p <;> simp only [ptV_none, ptV_some] at h ⊢ <;> go_simp
theorem parted_br (t : Tri) (c : Nat) (q v : Bs) (h : kindT t = 1 ∨ kindT t = 2) : pathT (partedT t c q v) = [] := by
 cases t with
 | nil => simp [kindT] at h
 | leaf p w => cases q <;> rfl
 | ext p t => cases q <;> rfl
 | br v kids => simp [kindT] at h
theorem put_parted (t : Tri) (n : Nat) (hn : n ≤ 400) (b : Nat) (q v : Bs) (hq : q.length ≤ n) (hf : fit q = true) (ho : okT t n)
  (hkd : (kindT t = 1 ∧ ¬ (common (pathT t) q = (pathT t).length ∧ common (pathT t) q = q.length)) ∨ (kindT t = 2 ∧ common (pathT t) q ≠ (pathT t).length)) (w : World) (hk : KT w) (hT : KAt w t (some b)) :
  Calls Tryz.prog 48 #[.pointer (some ⟨b, 0, none⟩), .string ⟨List.toArray q⟩, .string ⟨List.toArray v⟩] w (KOut w.heap.size w (joinT (q.take (common (pathT t) q)) (partedT t (common (pathT t) q) (q.drop (common (pathT t) q)) v))) := by
 obtain ⟨hne, ps, hps, ⟨c0, c1, c2, _, _, _, c6⟩, _⟩ := hT.open
 have hop := okT_path t n ho
 have hcl := common_le (pathT t) q
 have hcm := fun W => ncommon_any (pathT t) q (by omega) (by omega) W
 have hpt := fun W (h : KT W) (hK : KAt W t (some b)) => parted_any t b (common (pathT t) q) (q.drop (common (pathT t) q)) v n (by omega) (by rw [List.length_drop]; omega) (fit_split q _ hf).2 ho (by omega) W h hK
 have hjn := fun W (h : KT W) (b' : Nat) (hK : KAt W (partedT t (common (pathT t) q) (q.drop (common (pathT t) q)) v) (some b')) =>
  joined_any (q.take (common (pathT t) q)) _ b' W h hK (by rw [parted_br t _ _ _ (by omega), List.length_take]; simp; omega)
 have hw2 : (((common (pathT t) q : Nat) : Int) == ((pathT t).length : Int)) = decide (common (pathT t) q = (pathT t).length) := by
  rw [Bool.eq_iff_iff]; simp; omega
 have hq2 : (((common (pathT t) q : Nat) : Int) == (q.length : Int)) = decide (common (pathT t) q = q.length) := by
  rw [Bool.eq_iff_iff]; simp; omega
 have HK := Lib.hid hk
 have HT := Lib.hid hT
 clear hps hne hT hk c2 c6 ho hf
 generalize partedT t (common (pathT t) q) (q.drop (common (pathT t) q)) v = pt at *
 generalize kindT t = kd at *
 generalize pathT t = p at *
 generalize common p q = c at *
 have hst : List.take (q.length - c) (q.drop c) = q.drop c := List.take_of_length_le (by simp)
 have hci : (c : Int) ≤ (q.length : Int) := by omega
 have k3 : (kd == 3) = false := by rw [beq_eq_false_iff_ne]; omega
 have HPT := Lib.hid hpt
 have HJN := Lib.hid hjn
 have HCM := Lib.hid hcm
 have hrest : ∀ (W : World), Below w.heap.size w W → True := fun _ _ => trivial
 clear hpt hjn hcm hrest hop
 rcases hkd with ⟨h1, h2⟩ | ⟨h1, h2⟩
 ·subst h1
  by_cases h3 : c = p.length
  ·have h4 : ¬ c = q.length := fun e => h2 ⟨h3, e⟩
   rw [decide_eq_true h3] at hw2
   rw [decide_eq_false h4] at hq2
   clear h2 h3 h4
   go_enter Tryz.func48, Tryz.ntmps48
   go_wp2_with fail
   refine (HCM.out _).mono ?_
   rintro e w1 ⟨rfl, n1, rfl⟩
   have hb1 : Below w.heap.size w (w.drewN n1) := below_drewN (Below.refl _ _) _
   go_wp2_with fail
   refine wpH_start (by kernel_rfl) (fun hS => ?_)
   (refine hP 0 ?_ ⟨some 113, .move (.tmp 1), 9, "", #[], none⟩ hS ?_ ?_; rotate_left; focus (intro w; go_simp; try with_reducible rfl))
   try simp only [pna, pnb, pnc, pnd, pne]
   (refine hP 1 ?_ ⟨some 114, .move (.tmp 7), 3, "", #[], none⟩ hS ?_ ?_; rotate_left; focus (intro w; go_simp; try with_reducible rfl))
   try simp only [pna, pnb, pnc, pnd, pne]
   (refine hP 2 ?_ ⟨some 115, .slice 9 (.tmp 113) none (some (.tmp 114)) none, 9, "", #[], none⟩ hS ?_ ?_; rotate_left; focus (intro w; go_simp; try with_reducible rfl))
   try simp only [pna, pnb, pnc, pnd, pne]
   (refine hP 3 ?_ ⟨some 116, .move (.tmp 0), 66, "", #[], none⟩ hS ?_ ?_; rotate_left; focus (intro w; go_simp; try with_reducible rfl))
   try simp only [pna, pnb, pnc, pnd, pne]
   (refine hP 4 ?_ ⟨some 117, .move (.tmp 7), 3, "", #[], none⟩ hS ?_ ?_; rotate_left; focus (intro w; go_simp; try with_reducible rfl))
   try simp only [pna, pnb, pnc, pnd, pne]
   (refine hP 5 ?_ ⟨some 118, .move (.tmp 1), 9, "", #[], none⟩ hS ?_ ?_; rotate_left; focus (intro w; go_simp; try with_reducible rfl))
   try simp only [pna, pnb, pnc, pnd, pne]
   (refine hP 6 ?_ ⟨some 119, .move (.tmp 7), 3, "", #[], none⟩ hS ?_ ?_; rotate_left; focus (intro w; go_simp; try with_reducible rfl))
   try simp only [pna, pnb, pnc, pnd, pne]
   (refine hP 7 ?_ ⟨some 120, .slice 9 (.tmp 118) (some (.tmp 119)) none none, 9, "", #[], none⟩ hS ?_ ?_; rotate_left; focus (intro w; go_simp; try with_reducible rfl))
   try simp only [pna, pnb, pnc, pnd, pne]
   (refine hP 8 ?_ ⟨some 121, .move (.tmp 2), 9, "", #[], none⟩ hS ?_ ?_; rotate_left; focus (intro w; go_simp; try with_reducible rfl))
   try simp only [pna, pnb, pnc, pnd, pne]
   refine wpH_call 9 (oi := { dst := some 122, op := Op.call { callee := Callee.value (Operand.func 67), args := #[Operand.tmp 116, Operand.tmp 117, Operand.tmp 120, Operand.tmp 121], argTypes := #[66, 3, 9, 9] }, type := 66, pos := "knot.go:96", after := #[{ on := 3, ground := Ground.data }, { on := 4, ground := Ground.data }, { on := 7, ground := Ground.data }, { on := 8, ground := Ground.data }], guard := none }) rfl (by kernel_rfl) (by rfl) (HPT.out _ (HK.out.keep hb1.drew) (HT.out.keep hb1.drew)) ?_ ?_
   ·(go_simp; try rfl)
   rintro e w' ⟨b3, rfl, hb3, hK3⟩
   refine ⟨_, rfl, hS.trans (hb3.mono hS.size), ?_⟩
   replace hS := hS.trans (hb3.mono hS.size)
   have hb3' := hb1.drew.trans (hb3.mono hb1.drew.size)
   try simp only [pna, pnb, pnc, pnd, pne]
   refine wpH_call 10 (oi := { dst := some 123, op := Op.call { callee := Callee.value (Operand.func 63), args := #[Operand.tmp 115, Operand.tmp 122], argTypes := #[9, 66] }, type := 66, pos := "knot.go:96", after := #[{ on := 2, ground := Ground.data }, { on := 9, ground := Ground.data }, { on := 9, ground := Ground.chain }], guard := none }) rfl (by kernel_rfl) (by rfl) (HJN.out _ (HK.out.keep hb3') b3 hK3) ?_ ?_
   ·(go_simp; try rfl)
   rintro e w' ⟨b4, rfl, hb4, hK4⟩
   refine ⟨_, rfl, hS.trans (hb4.mono hS.size), ?_⟩
   replace hS := hS.trans (hb4.mono hS.size)
   try simp only [pna, pnb, pnc, pnd, pne]
   (refine hP 11 ?_ ⟨some 6, .assign (.tmp 123), 66, "", #[], none⟩ hS ?_ ?_; rotate_left; focus (intro w; go_simp; try with_reducible rfl))
   try simp only [pna, pnb, pnc, pnd, pne]
   refine wpAnyH_done (by kernel_rfl) ?_ _
   go_wp2_with fail
   go_ret
   exact ⟨b4, rfl, hb3'.trans (hb4.mono hb3'.size), hK4⟩
  ·rw [decide_eq_false h3] at hw2
   clear h2 h3 hq2
   go_enter Tryz.func48, Tryz.ntmps48
   go_wp2_with fail
   refine (HCM.out _).mono ?_
   rintro e w1 ⟨rfl, n1, rfl⟩
   have hb1 : Below w.heap.size w (w.drewN n1) := below_drewN (Below.refl _ _) _
   go_wp2_with fail
   refine wpH_start (by kernel_rfl) (fun hS => ?_)
   (refine hP 0 ?_ ⟨some 113, .move (.tmp 1), 9, "", #[], none⟩ hS ?_ ?_; rotate_left; focus (intro w; go_simp; try with_reducible rfl))
   try simp only [pna, pnb, pnc, pnd, pne]
   (refine hP 1 ?_ ⟨some 114, .move (.tmp 7), 3, "", #[], none⟩ hS ?_ ?_; rotate_left; focus (intro w; go_simp; try with_reducible rfl))
   try simp only [pna, pnb, pnc, pnd, pne]
   (refine hP 2 ?_ ⟨some 115, .slice 9 (.tmp 113) none (some (.tmp 114)) none, 9, "", #[], none⟩ hS ?_ ?_; rotate_left; focus (intro w; go_simp; try with_reducible rfl))
   try simp only [pna, pnb, pnc, pnd, pne]
   (refine hP 3 ?_ ⟨some 116, .move (.tmp 0), 66, "", #[], none⟩ hS ?_ ?_; rotate_left; focus (intro w; go_simp; try with_reducible rfl))
   try simp only [pna, pnb, pnc, pnd, pne]
   (refine hP 4 ?_ ⟨some 117, .move (.tmp 7), 3, "", #[], none⟩ hS ?_ ?_; rotate_left; focus (intro w; go_simp; try with_reducible rfl))
   try simp only [pna, pnb, pnc, pnd, pne]
   (refine hP 5 ?_ ⟨some 118, .move (.tmp 1), 9, "", #[], none⟩ hS ?_ ?_; rotate_left; focus (intro w; go_simp; try with_reducible rfl))
   try simp only [pna, pnb, pnc, pnd, pne]
   (refine hP 6 ?_ ⟨some 119, .move (.tmp 7), 3, "", #[], none⟩ hS ?_ ?_; rotate_left; focus (intro w; go_simp; try with_reducible rfl))
   try simp only [pna, pnb, pnc, pnd, pne]
   (refine hP 7 ?_ ⟨some 120, .slice 9 (.tmp 118) (some (.tmp 119)) none none, 9, "", #[], none⟩ hS ?_ ?_; rotate_left; focus (intro w; go_simp; try with_reducible rfl))
   try simp only [pna, pnb, pnc, pnd, pne]
   (refine hP 8 ?_ ⟨some 121, .move (.tmp 2), 9, "", #[], none⟩ hS ?_ ?_; rotate_left; focus (intro w; go_simp; try with_reducible rfl))
   try simp only [pna, pnb, pnc, pnd, pne]
   refine wpH_call 9 (oi := { dst := some 122, op := Op.call { callee := Callee.value (Operand.func 67), args := #[Operand.tmp 116, Operand.tmp 117, Operand.tmp 120, Operand.tmp 121], argTypes := #[66, 3, 9, 9] }, type := 66, pos := "knot.go:96", after := #[{ on := 3, ground := Ground.data }, { on := 4, ground := Ground.data }, { on := 7, ground := Ground.data }, { on := 8, ground := Ground.data }], guard := none }) rfl (by kernel_rfl) (by rfl) (HPT.out _ (HK.out.keep hb1.drew) (HT.out.keep hb1.drew)) ?_ ?_
   ·(go_simp; try rfl)
   rintro e w' ⟨b3, rfl, hb3, hK3⟩
   refine ⟨_, rfl, hS.trans (hb3.mono hS.size), ?_⟩
   replace hS := hS.trans (hb3.mono hS.size)
   have hb3' := hb1.drew.trans (hb3.mono hb1.drew.size)
   try simp only [pna, pnb, pnc, pnd, pne]
   refine wpH_call 10 (oi := { dst := some 123, op := Op.call { callee := Callee.value (Operand.func 63), args := #[Operand.tmp 115, Operand.tmp 122], argTypes := #[9, 66] }, type := 66, pos := "knot.go:96", after := #[{ on := 2, ground := Ground.data }, { on := 9, ground := Ground.data }, { on := 9, ground := Ground.chain }], guard := none }) rfl (by kernel_rfl) (by rfl) (HJN.out _ (HK.out.keep hb3') b3 hK3) ?_ ?_
   ·(go_simp; try rfl)
   rintro e w' ⟨b4, rfl, hb4, hK4⟩
   refine ⟨_, rfl, hS.trans (hb4.mono hS.size), ?_⟩
   replace hS := hS.trans (hb4.mono hS.size)
   try simp only [pna, pnb, pnc, pnd, pne]
   (refine hP 11 ?_ ⟨some 6, .assign (.tmp 123), 66, "", #[], none⟩ hS ?_ ?_; rotate_left; focus (intro w; go_simp; try with_reducible rfl))
   try simp only [pna, pnb, pnc, pnd, pne]
   refine wpAnyH_done (by kernel_rfl) ?_ _
   go_wp2_with fail
   go_ret
   exact ⟨b4, rfl, hb3'.trans (hb4.mono hb3'.size), hK4⟩
 ·subst h1
  rw [decide_eq_false h2] at hw2
  clear h2 hq2
  go_enter Tryz.func48, Tryz.ntmps48
  go_wp2_with fail
  refine (HCM.out _).mono ?_
  rintro e w1 ⟨rfl, n1, rfl⟩
  have hb1 : Below w.heap.size w (w.drewN n1) := below_drewN (Below.refl _ _) _
  go_wp2_with fail
  refine wpH_start (by kernel_rfl) (fun hS => ?_)
  (refine hP 0 ?_ ⟨some 113, .move (.tmp 1), 9, "", #[], none⟩ hS ?_ ?_; rotate_left; focus (intro w; go_simp; try with_reducible rfl))
  try simp only [pna, pnb, pnc, pnd, pne]
  (refine hP 1 ?_ ⟨some 114, .move (.tmp 7), 3, "", #[], none⟩ hS ?_ ?_; rotate_left; focus (intro w; go_simp; try with_reducible rfl))
  try simp only [pna, pnb, pnc, pnd, pne]
  (refine hP 2 ?_ ⟨some 115, .slice 9 (.tmp 113) none (some (.tmp 114)) none, 9, "", #[], none⟩ hS ?_ ?_; rotate_left; focus (intro w; go_simp; try with_reducible rfl))
  try simp only [pna, pnb, pnc, pnd, pne]
  (refine hP 3 ?_ ⟨some 116, .move (.tmp 0), 66, "", #[], none⟩ hS ?_ ?_; rotate_left; focus (intro w; go_simp; try with_reducible rfl))
  try simp only [pna, pnb, pnc, pnd, pne]
  (refine hP 4 ?_ ⟨some 117, .move (.tmp 7), 3, "", #[], none⟩ hS ?_ ?_; rotate_left; focus (intro w; go_simp; try with_reducible rfl))
  try simp only [pna, pnb, pnc, pnd, pne]
  (refine hP 5 ?_ ⟨some 118, .move (.tmp 1), 9, "", #[], none⟩ hS ?_ ?_; rotate_left; focus (intro w; go_simp; try with_reducible rfl))
  try simp only [pna, pnb, pnc, pnd, pne]
  (refine hP 6 ?_ ⟨some 119, .move (.tmp 7), 3, "", #[], none⟩ hS ?_ ?_; rotate_left; focus (intro w; go_simp; try with_reducible rfl))
  try simp only [pna, pnb, pnc, pnd, pne]
  (refine hP 7 ?_ ⟨some 120, .slice 9 (.tmp 118) (some (.tmp 119)) none none, 9, "", #[], none⟩ hS ?_ ?_; rotate_left; focus (intro w; go_simp; try with_reducible rfl))
  try simp only [pna, pnb, pnc, pnd, pne]
  (refine hP 8 ?_ ⟨some 121, .move (.tmp 2), 9, "", #[], none⟩ hS ?_ ?_; rotate_left; focus (intro w; go_simp; try with_reducible rfl))
  try simp only [pna, pnb, pnc, pnd, pne]
  refine wpH_call 9 (oi := { dst := some 122, op := Op.call { callee := Callee.value (Operand.func 67), args := #[Operand.tmp 116, Operand.tmp 117, Operand.tmp 120, Operand.tmp 121], argTypes := #[66, 3, 9, 9] }, type := 66, pos := "knot.go:96", after := #[{ on := 3, ground := Ground.data }, { on := 4, ground := Ground.data }, { on := 7, ground := Ground.data }, { on := 8, ground := Ground.data }], guard := none }) rfl (by kernel_rfl) (by rfl) (HPT.out _ (HK.out.keep hb1.drew) (HT.out.keep hb1.drew)) ?_ ?_
  ·(go_simp; try rfl)
  rintro e w' ⟨b3, rfl, hb3, hK3⟩
  refine ⟨_, rfl, hS.trans (hb3.mono hS.size), ?_⟩
  replace hS := hS.trans (hb3.mono hS.size)
  have hb3' := hb1.drew.trans (hb3.mono hb1.drew.size)
  try simp only [pna, pnb, pnc, pnd, pne]
  refine wpH_call 10 (oi := { dst := some 123, op := Op.call { callee := Callee.value (Operand.func 63), args := #[Operand.tmp 115, Operand.tmp 122], argTypes := #[9, 66] }, type := 66, pos := "knot.go:96", after := #[{ on := 2, ground := Ground.data }, { on := 9, ground := Ground.data }, { on := 9, ground := Ground.chain }], guard := none }) rfl (by kernel_rfl) (by rfl) (HJN.out _ (HK.out.keep hb3') b3 hK3) ?_ ?_
  ·(go_simp; try rfl)
  rintro e w' ⟨b4, rfl, hb4, hK4⟩
  refine ⟨_, rfl, hS.trans (hb4.mono hS.size), ?_⟩
  replace hS := hS.trans (hb4.mono hS.size)
  try simp only [pna, pnb, pnc, pnd, pne]
  (refine hP 11 ?_ ⟨some 6, .assign (.tmp 123), 66, "", #[], none⟩ hS ?_ ?_; rotate_left; focus (intro w; go_simp; try with_reducible rfl))
  try simp only [pna, pnb, pnc, pnd, pne]
  refine wpAnyH_done (by kernel_rfl) ?_ _
  go_wp2_with fail
  go_ret
  exact ⟨b4, rfl, hb3'.trans (hb4.mono hb3'.size), hK4⟩
end Go.Proofs.YtjppbomngnomhaaGreatDoor
namespace Go.Proofs.YtjppbomngnomhaaGreatDoor
open Go.RowKit Pl
theorem put_leaf (p0 w0 : Bs) (n : Nat) (hn : n ≤ 400) (b : Nat) (q v : Bs) (hq : q.length ≤ n) (ho : okT (.leaf p0 w0) n) (h1 : common p0 q = p0.length) (h2 : common p0 q = q.length) (w : World) (hk : KT w) (hT : KAt w (.leaf p0 w0) (some b)) :
  Calls Tryz.prog 48 #[.pointer (some ⟨b, 0, none⟩), .string ⟨List.toArray q⟩, .string ⟨List.toArray v⟩] w (KOut w.heap.size w (.leaf q v)) := by
 obtain ⟨hne, ps, hps, ⟨c0, c1, c2, _, _, _, c6⟩, _⟩ := hT.open
 simp only [kindT, pathT] at c0 c1
 have hop := ho.2
 have hcm := fun W => ncommon_any p0 q (by omega) (by omega) W
 rw [h1] at h2
 rw [h1] at hcm
 have e1 : (p0.length : Int) = (q.length : Int) := by omega
 have HCM := Lib.hid hcm
 have HLF := Lib.hid (fun W (h : KT W) => leaf_any q v (by omega) W h)
 have HK := Lib.hid hk
 have hw2 : ((p0.length : Int) == (q.length : Int)) = true := by simpa using e1
 clear hcm hps hne hT hk c2 c6 ho h1 h2 e1
 go_enter Tryz.func48, Tryz.ntmps48
 go_wp2_with fail
 refine (HCM.out _).mono ?_
 rintro e w1 ⟨rfl, n1, rfl⟩
 have hb1 : Below w.heap.size w (w.drewN n1) := below_drewN (Below.refl _ _) _
 go_wp2_with fail
 refine (HLF.out _ (HK.out.keep hb1)).mono ?_
 rintro e w2 ⟨b2, rfl, hb2, hK2⟩
 go_wp2_with fail
 go_ret
 exact ⟨b2, rfl, hb1.trans (hb2.mono hb1.size), hK2⟩
theorem put_ext (p0 : Bs) (t1 : Tri) (n : Nat) (hn : n ≤ 400) (b : Nat) (q v : Bs) (hq : q.length ≤ n) (hf : fit q = true) (ho : okT (.ext p0 t1) n) (h1 : common p0 q = p0.length) (w : World) (hk : KT w) (hT : KAt w (.ext p0 t1) (some b))
  (ih : ∀ (p : Option Nat) (w : World), KT w → KAt w t1 p → Calls Tryz.prog 48 #[ptV p, .string ⟨List.toArray (q.drop p0.length)⟩, .string ⟨List.toArray v⟩] w (KOut w.heap.size w (putT t1 (q.drop p0.length) v))) :
  Calls Tryz.prog 48 #[.pointer (some ⟨b, 0, none⟩), .string ⟨List.toArray q⟩, .string ⟨List.toArray v⟩] w (KOut w.heap.size w (joinT p0 (putT t1 (q.drop p0.length) v))) := by
 obtain ⟨hne, ps, hps, ⟨c0, c1, c2, _, _, _, c6⟩, _⟩ := hT.open
 simp only [kindT, pathT] at c0 c1
 obtain ⟨o1, o2, o3, o4⟩ := ho
 have hcl := common_le p0 q
 rw [h1] at hcl
 have hcm := fun W => ncommon_any p0 q (by omega) (by omega) W
 rw [h1] at hcm
 have hk0 := hps 0 (by omega)
 rw [show kidsOf (.ext p0 t1) 0 = t1 from by simp [kidsOf, updT]] at hk0
 have hokp := okT_put t1 (q.drop p0.length) v (n - p0.length) o4 (fit_split q _ hf).2 (by rw [List.length_drop]; omega)
 have hpl := (okT_path _ _ hokp.1).1
 have HCM := Lib.hid hcm
 have HJN := Lib.hid (fun W (h : KT W) (b' : Nat) (hK : KAt W (putT t1 (q.drop p0.length) v) (some b')) => joined_any p0 _ b' W h hK (by omega))
 have HIH := Lib.hid ih
 have HK := Lib.hid hk
 have HK0 := Lib.hid hk0
 have hst : List.take (q.length - p0.length) (q.drop p0.length) = q.drop p0.length := List.take_of_length_le (by simp)
 have hci : (p0.length : Int) ≤ (q.length : Int) := by omega
 clear hcm hps hne hT hk c2 h1 ih hk0 hokp o3 o4 hpl o2
 generalize putT t1 (q.drop p0.length) v = t2 at *
 go_enter Tryz.func48, Tryz.ntmps48
 go_wp2_with fail
 refine (HCM.out _).mono ?_
 rintro e w1 ⟨rfl, n1, rfl⟩
 have hb1 : Below w.heap.size w (w.drewN n1) := below_drewN (Below.refl _ _) _
 have d1 := keepC hb1 c1
 have d6 := keepC hb1 c6
 go_wp2_with fail
 refine wpH_start (by kernel_rfl) (fun hS => ?_)
 (refine hP 0 ?_ ⟨some 86, .move (.tmp 0), 66, "", #[], none⟩ hS ?_ ?_; rotate_left; focus (intro w; go_simp; try with_reducible rfl))
 try simp only [pna, pnb, pnc, pnd, pne]
 (refine hP 1 ?_ ⟨some 87, .nilCheck (.tmp 86), 0, "", #[], none⟩ hS ?_ ?_; rotate_left; focus (intro w; go_simp; try with_reducible rfl))
 try simp only [pna, pnb, pnc, pnd, pne]
 (refine hP 2 ?_ ⟨some 88, .fieldAddr 79 (.tmp 87) 0, 0, "", #[], none⟩ hS ?_ ?_; rotate_left; focus (intro w; go_simp; try with_reducible rfl))
 try simp only [pna, pnb, pnc, pnd, pne]
 (refine hP 3 ?_ ⟨some 89, .fieldAddr 76 (.tmp 88) 1, 0, "", #[], none⟩ hS ?_ ?_; rotate_left; focus (intro w; go_simp; try with_reducible rfl))
 try simp only [pna, pnb, pnc, pnd, pne]
 refine wpH_load 4 (.string ⟨List.toArray p0⟩) (oi := { dst := some 90, op := Op.load 9 (Operand.tmp 89), type := 9, pos := "knot.go:92", after := #[{ on := 3, ground := Ground.data }], guard := none }) rfl (by kernel_rfl) (by kernel_rfl) (by kernel_rfl) (by rfl) hS (fun _ _ _ h => h) (fun w hb => (by have c := keepC hb d1; go_simp; try rfl)) ?_
 try simp only [pna, pnb, pnc, pnd, pne]
 (refine hP 5 ?_ ⟨some 91, .move (.tmp 0), 66, "", #[], none⟩ hS ?_ ?_; rotate_left; focus (intro w; go_simp; try with_reducible rfl))
 try simp only [pna, pnb, pnc, pnd, pne]
 (refine hP 6 ?_ ⟨some 92, .nilCheck (.tmp 91), 0, "", #[], none⟩ hS ?_ ?_; rotate_left; focus (intro w; go_simp; try with_reducible rfl))
 try simp only [pna, pnb, pnc, pnd, pne]
 (refine hP 7 ?_ ⟨some 93, .fieldAddr 79 (.tmp 92) 1, 0, "", #[], none⟩ hS ?_ ?_; rotate_left; focus (intro w; go_simp; try with_reducible rfl))
 try simp only [pna, pnb, pnc, pnd, pne]
 (refine hP 8 ?_ ⟨some 94, .indexAddr 77 (.tmp 93) (.const (.int .i64 0)), 0, "", #[], none⟩ hS ?_ ?_; rotate_left; focus (intro w; go_simp; try with_reducible rfl))
 try simp only [pna, pnb, pnc, pnd, pne]
 refine wpH_load 9 (ptV (ps 0)) (oi := { dst := some 95, op := Op.load 66 (Operand.tmp 94), type := 66, pos := "knot.go:92", after := #[{ on := 8, ground := Ground.data }], guard := none }) rfl (by kernel_rfl) (by kernel_rfl) (by kernel_rfl) (by rfl) hS (fun _ _ _ h => h) (fun w hb => (by have c := keepC hb d6; go_simp; try rfl)) ?_
 try simp only [pna, pnb, pnc, pnd, pne]
 (refine hP 10 ?_ ⟨some 96, .move (.tmp 1), 9, "", #[], none⟩ hS ?_ ?_; rotate_left; focus (intro w; go_simp; try with_reducible rfl))
 try simp only [pna, pnb, pnc, pnd, pne]
 (refine hP 11 ?_ ⟨some 97, .move (.tmp 7), 3, "", #[], none⟩ hS ?_ ?_; rotate_left; focus (intro w; go_simp; try with_reducible rfl))
 try simp only [pna, pnb, pnc, pnd, pne]
 (refine hP 12 ?_ ⟨some 98, .slice 9 (.tmp 96) (some (.tmp 97)) none none, 9, "", #[], none⟩ hS ?_ ?_; rotate_left; focus (intro w; go_simp; try with_reducible rfl))
 try simp only [pna, pnb, pnc, pnd, pne]
 (refine hP 13 ?_ ⟨some 99, .move (.tmp 2), 9, "", #[], none⟩ hS ?_ ?_; rotate_left; focus (intro w; go_simp; try with_reducible rfl))
 try simp only [pna, pnb, pnc, pnd, pne]
 refine wpH_call 14 (oi := { dst := some 100, op := Op.call { callee := Callee.value (Operand.func 48), args := #[Operand.tmp 95, Operand.tmp 98, Operand.tmp 99], argTypes := #[66, 9, 9] }, type := 66, pos := "knot.go:92", after := #[{ on := 9, ground := Ground.data }, { on := 12, ground := Ground.data }, { on := 13, ground := Ground.data }], guard := none }) rfl (by kernel_rfl) (by rfl) (HIH.out (ps 0) _ (HK.out.keep hb1.drew) (HK0.out.keep hb1.drew)) ?_ ?_
 ·(go_simp; try rfl)
 rintro e w' ⟨b3, rfl, hb3, hK3⟩
 refine ⟨_, rfl, hS.trans (hb3.mono hS.size), ?_⟩
 replace hS := hS.trans (hb3.mono hS.size)
 have hb3' := hb1.drew.trans (hb3.mono hb1.drew.size)
 try simp only [pna, pnb, pnc, pnd, pne]
 refine wpH_call 15 (oi := { dst := some 101, op := Op.call { callee := Callee.value (Operand.func 63), args := #[Operand.tmp 90, Operand.tmp 100], argTypes := #[9, 66] }, type := 66, pos := "knot.go:92", after := #[{ on := 4, ground := Ground.data }, { on := 14, ground := Ground.data }, { on := 14, ground := Ground.chain }], guard := none }) rfl (by kernel_rfl) (by rfl) (HJN.out _ (HK.out.keep hb3') b3 hK3) ?_ ?_
 ·(go_simp; try rfl)
 rintro e w' ⟨b4, rfl, hb4, hK4⟩
 refine ⟨_, rfl, hS.trans (hb4.mono hS.size), ?_⟩
 replace hS := hS.trans (hb4.mono hS.size)
 try simp only [pna, pnb, pnc, pnd, pne]
 (refine hP 16 ?_ ⟨some 6, .assign (.tmp 101), 66, "", #[], none⟩ hS ?_ ?_; rotate_left; focus (intro w; go_simp; try with_reducible rfl))
 try simp only [pna, pnb, pnc, pnd, pne]
 refine wpAnyH_done (by kernel_rfl) ?_ _
 go_wp2_with fail
 go_ret
 exact ⟨b4, rfl, hb3'.trans (hb4.mono hb3'.size), hK4⟩
theorem put_brE (w0 : Bs) (kids : Nat → Tri) (b : Nat) (v : Bs) (w : World) (hk : KT w) (hT : KAt w (.br w0 kids) (some b)) :
  Calls Tryz.prog 48 #[.pointer (some ⟨b, 0, none⟩), .string ⟨List.toArray []⟩, .string ⟨List.toArray v⟩] w (KOut w.heap.size w (.br v kids)) := by
 obtain ⟨hne, ps, hps, ⟨c0, c1, c2, _, _, _, c6⟩, hB⟩ := hT.open
 simp only [kindT, pathT] at c0 c1
 have HCM := Lib.hid (fun W => ncommon_any [] [] (by simp) (by simp) W)
 have HBR := Lib.hid (fun W (h : KT W) hK => branch_any v kids ps W h hK)
 have HK := Lib.hid hk
 have HPS := Lib.hid hps
 have HB := Lib.hid hB
 clear hps hne hT hk c2 c6 hB
 go_enter Tryz.func48, Tryz.ntmps48
 go_wp2_with fail
 refine (HCM.out _).mono ?_
 rintro e w1 ⟨rfl, n1, rfl⟩
 have hb1 : Below w.heap.size w (w.drewN n1) := below_drewN (Below.refl _ _) _
 have hB1 := HB.out.keep hb1
 rw [show common [] [] = 0 from rfl]
 go_wp2_with (first
  | (refine wpList_knPtrs rfl (.tmp 44) rfl rfl hB1 ?_)
  | fail)
 refine (HBR.out _ (HK.out.keep hb1) (fun i hi => (HPS.out i hi).keep hb1)).mono ?_
 rintro e w2 ⟨b2, rfl, hb2, hK2⟩
 go_wp2_with fail
 go_ret
 exact ⟨b2, rfl, hb1.trans (hb2.mono hb1.size), hK2⟩
theorem put_br (w0 : Bs) (kids : Nat → Tri) (b : Nat) (a : UInt8) (r v : Bs) (ha : a.toNat < 16) (hr : r.length ≤ 900) (w : World) (hk : KT w) (hT : KAt w (.br w0 kids) (some b))
  (ih : ∀ (p : Option Nat) (w : World), KT w → KAt w (kids a.toNat) p → Calls Tryz.prog 48 #[ptV p, .string ⟨List.toArray r⟩, .string ⟨List.toArray v⟩] w (KOut w.heap.size w (putT (kids a.toNat) r v))) :
  Calls Tryz.prog 48 #[.pointer (some ⟨b, 0, none⟩), .string ⟨List.toArray (a :: r)⟩, .string ⟨List.toArray v⟩] w (KOut w.heap.size w (.br w0 (updT kids a.toNat (putT (kids a.toNat) r v)))) := by
 obtain ⟨hne, ps, hps, ⟨c0, c1, c2, _, _, _, c6⟩, hB⟩ := hT.open
 simp only [kindT, pathT, valT] at c0 c1 c2
 have HCM := Lib.hid (fun W => ncommon_any [] (a :: r) (by simp) (by simp; omega) W)
 have HIH := Lib.hid ih
 have HK := Lib.hid hk
 have HPS := Lib.hid hps
 have HB := Lib.hid hB
 have hbl := hB.lt
 have HC2 := Lib.hid c2
 have i1 : 0 ≤ (a.toNat : Int) ∧ (a.toNat : Int) < 16 := by omega
 have i2 : (1 : Int) ≤ (r.length : Int) + 1 := by omega
 clear hps hne hT hk c2 c6 hB ih
 generalize putT (kids a.toNat) r v = t2 at *
 go_enter Tryz.func48, Tryz.ntmps48
 go_wp2_with fail
 refine (HCM.out _).mono ?_
 rintro e w1 ⟨rfl, n1, rfl⟩
 have hb1 : Below w.heap.size w (w.drewN n1) := below_drewN (Below.refl _ _) _
 have hB1 := HB.out.keep hb1
 have hsz : (w.drewN n1).heap.size = w.heap.size := rfl
 rw [show common [] (a :: r) = 0 from rfl]
 go_wp2_with (first
  | (refine wpList_knPtrs rfl (.tmp 56) rfl rfl hB1 ?_)
  | (refine wpList_allocP rfl rfl ?_
     intro m w2 hm B2 hb2)
  | (refine wpList_rowStore row16p rfl rfl (.tmp 9) (.tmp 57) rfl rfl rfl (pk_len ps) (pk_one ps) (pk_len noP) B2 ?_
     intro w3 B3 m3)
  | fail)
 have hmw : w.heap.size ≤ m := hm
 have hb12 : Below w.heap.size w w2 := hb1.trans hb2
 have hs12 := hb12.size
 have hbw : Below w.heap.size w w3 := Below.mod hb12 m3 (by omega) (by simp; omega)
 have hT3 := kat_keep hbw HPS.out
 have HB3 := Lib.hid B3
 have HBW := Lib.hid hbw
 have HT3 := Lib.hid hT3
 have hbm : b < m := by omega
 clear hb1 hB1 hsz hb2 B2 m3 B3 hbw hT3 c0 c1 hb12 hs12 hm
 refine wpH_startM [m] (by kernel_rfl) (fun hS => ?_)
 (refine hP 0 ?_ ⟨some 58, .move (.tmp 1), 9, "", #[], none⟩ hS ?_ ?_; rotate_left; focus (intro w; go_simp; try with_reducible rfl))
 try simp only [pna, pnb, pnc, pnd, pne]
 (refine hP 1 ?_ ⟨some 59, .index 9 (.tmp 58) (.const (.int .i64 0)), 5, "", #[], none⟩ hS ?_ ?_; rotate_left; focus (intro w; go_simp; try with_reducible rfl))
 try simp only [pna, pnb, pnc, pnd, pne]
 (refine hP 2 ?_ ⟨some 60, .move (.tmp 1), 9, "", #[], none⟩ hS ?_ ?_; rotate_left; focus (intro w; go_simp; try with_reducible rfl))
 try simp only [pna, pnb, pnc, pnd, pne]
 (refine hP 3 ?_ ⟨some 61, .index 9 (.tmp 60) (.const (.int .i64 0)), 5, "", #[], none⟩ hS ?_ ?_; rotate_left; focus (intro w; go_simp; try with_reducible rfl))
 try simp only [pna, pnb, pnc, pnd, pne]
 (refine hP 4 ?_ ⟨some 62, .indexAddr 77 (.tmp 9) (.tmp 61), 0, "", #[], none⟩ hS ?_ ?_; rotate_left; focus (intro w; go_simp; try with_reducible rfl))
 try simp only [pna, pnb, pnc, pnd, pne]
 (refine hP 6 ?_ ⟨some 64, .move (.tmp 1), 9, "", #[], none⟩ hS ?_ ?_; rotate_left; focus (intro w; go_simp; try with_reducible rfl))
 try simp only [pna, pnb, pnc, pnd, pne]
 (refine hP 7 ?_ ⟨some 65, .slice 9 (.tmp 64) (some (.const (.int .i64 1))) none none, 9, "", #[], none⟩ hS ?_ ?_; rotate_left; focus (intro w; go_simp; try with_reducible rfl))
 try simp only [pna, pnb, pnc, pnd, pne]
 (refine hP 8 ?_ ⟨some 66, .move (.tmp 2), 9, "", #[], none⟩ hS ?_ ?_; rotate_left; focus (intro w; go_simp; try with_reducible rfl))
 try simp only [pna, pnb, pnc, pnd, pne]
 refine wpH_op 5 (oi := { dst := some 63, op := Op.load 66 (Operand.tmp 62), type := 66, pos := "knot.go:89", after := #[{ on := 4, ground := Ground.data }], guard := none }) rfl (by kernel_rfl) (by rfl) ?_
 refine wp_load1 66 (.tmp 62) rfl ⟨m, a.toNat, none⟩ rfl (ptV (ps a.toNat)) (load_ptr _ _ _ _ (pk_cell HB3.out.drew a.toNat ha)) ?_
 refine ⟨hS, ?_⟩
 try simp only [pna, pnb, pnc, pnd, pne]
 refine wpH_call 9 (oi := { dst := some 67, op := Op.call { callee := Callee.value (Operand.func 48), args := #[Operand.tmp 63, Operand.tmp 65, Operand.tmp 66], argTypes := #[66, 9, 9] }, type := 66, pos := "knot.go:89", after := #[{ on := 5, ground := Ground.data }, { on := 7, ground := Ground.data }, { on := 8, ground := Ground.data }], guard := none }) rfl (by kernel_rfl) (by rfl) (HIH.out (ps a.toNat) _ (HK.out.keep HBW.out.drew) ((HT3.out a.toNat ha).keep (Below.refl _ _).drew)) ?_ ?_
 ·(go_simp; try rfl)
 rintro e w' ⟨b8, rfl, hbx, hK8⟩
 refine ⟨_, rfl, hS.trans (Mod.of_below hbx), ?_⟩
 replace hS := hS.trans (Mod.of_below hbx)
 try simp only [pna, pnb, pnc, pnd, pne]
 (refine hP 10 ?_ ⟨some 68, .indexAddr 77 (.tmp 9) (.tmp 59), 0, "", #[], none⟩ hS ?_ ?_; rotate_left; focus (intro w; go_simp; try with_reducible rfl))
 try simp only [pna, pnb, pnc, pnd, pne]
 refine wpH_op 11 (oi := { dst := none, op := Op.store 66 (Operand.tmp 68) (Operand.tmp 67), type := 0, pos := "knot.go:89", after := #[{ on := 10, ground := Ground.data }, { on := 9, ground := Ground.data }, { on := 9, ground := Ground.chain }, { on := 0, ground := Ground.phase }, { on := 1, ground := Ground.phase }, { on := 2, ground := Ground.phase }, { on := 3, ground := Ground.phase }, { on := 4, ground := Ground.phase }, { on := 5, ground := Ground.phase }, { on := 6, ground := Ground.phase }, { on := 7, ground := Ground.phase }, { on := 8, ground := Ground.phase }, { on := 9, ground := Ground.phase }], guard := none }) rfl (by kernel_rfl) (by rfl) ?_
 refine wp_storeP (.tmp 68) (.tmp 67) rfl m a.toNat rfl (some ⟨b8, 0, none⟩) rfl _ (pk_cell (HB3.out.drew.keep hbx) a.toNat ha) ((HB3.out.drew.keep hbx).froz _) ?_
 refine ⟨hS.setCell (.inl (by simp)) _, ?_⟩
 try simp only [pna, pnb, pnc, pnd, pne]
 refine wpAnyH_done (by kernel_rfl) ?_ _
 have B4 := HB3.out.drew.keep hbx
 have hT4 := kat_upd (kat_other B4 a.toNat (.pointer (some ⟨b8, 0, none⟩)) (kat_keep hbx (kat_keep (Below.refl _ _).drew HT3.out))) a.toNat (hK8.other B4 a.toNat (.pointer (some ⟨b8, 0, none⟩)))
 have B5 := B4.set a.toNat (ptV (some b8))
 rw [pk_set _ _ _ ha, ptV_some] at B5
 have hb5 : Below w.heap.size w _ := ((HBW.out.drew).trans (hbx.mono HBW.out.size)).setCell (p := ⟨m, a.toNat, none⟩) hmw (.pointer (some ⟨b8, 0, none⟩))
 clear hbx hK8 hS B4
 generalize World.setCell _ ⟨m, a.toNat, none⟩ (.pointer (some ⟨b8, 0, none⟩)) = w5 at *
 have HT5 := Lib.hid hT4
 clear hT4
 go_wp2_with fail
 refine wp_tail 6 (by kernel_rfl) (by kernel_rfl) ?_
 intro w6 hw6
 have B6 := B5.drew
 have hb6 := hb5.drew
 have HT6 := Lib.hid (kat_keep (Below.refl w5.heap.size w5).drew HT5.out)
 rw [← hw6] at B6 hb6 HT6
 have d2 := keepC hb6 HC2.out
 clear hw6 B5 hb5 HT5
 simp only [List.take_succ_cons, List.take_zero, List.drop_succ_cons, List.drop_zero]
 repeat (first
  | (refine wpStill_rowLoadAt row16p rfl (.tmp 9) rfl rfl (pk_len (updP ps a.toNat (some b8))) B6.range ?_)
  | still_step)
 refine wpStill_nil ?_
 go_wp2_with fail
 refine (branch_any w0 (updT kids a.toNat t2) _ w6 (HK.out.keep hb6) HT6.out).mono ?_
 rintro e w7 ⟨b7, rfl, hb7, hK7⟩
 go_wp2_with fail
 go_ret
 exact ⟨b7, rfl, hb6.trans (hb7.mono hb6.size), hK7⟩
theorem put_any (v : Bs) : ∀ (t : Tri) (n : Nat), n ≤ 400 → ∀ (q : Bs), q.length ≤ n → fit q = true → okT t n → ∀ (p : Option Nat) (w : World), KT w → KAt w t p →
  Calls Tryz.prog 48 #[ptV p, .string ⟨List.toArray q⟩, .string ⟨List.toArray v⟩] w (KOut w.heap.size w (putT t q v)) := by
 intro t
 induction t with
 | nil =>
  intro n hn q hq hf ho p w hk hT
  obtain rfl := hT.isNil
  have HLF := Lib.hid (leaf_any q v (by omega) w hk)
  clear hk hT
  show Calls Tryz.prog 48 #[.pointer none, .string ⟨List.toArray q⟩, .string ⟨List.toArray v⟩] w (KOut w.heap.size w (.leaf q v))
  go_enter Tryz.func48, Tryz.ntmps48
  go_wp2_with fail
  refine HLF.out.mono ?_
  rintro e w2 ⟨b2, rfl, hb2, hK2⟩
  go_wp2_with fail
  go_ret
  exact ⟨b2, rfl, hb2, hK2⟩
 | leaf p0 w0 =>
  intro n hn q hq hf ho p w hk hT
  obtain ⟨b, rfl⟩ := hT.isKnot (by simp)
  by_cases h : common p0 q = p0.length ∧ common p0 q = q.length
  ·rw [show putT (.leaf p0 w0) q v = .leaf q v from by rw [putT, if_pos h]]
   exact put_leaf p0 w0 n hn b q v hq ho h.1 h.2 w hk hT
  ·rw [show putT (.leaf p0 w0) q v = joinT (q.take (common p0 q)) (partedT (.leaf p0 w0) (common p0 q) (q.drop (common p0 q)) v) from by rw [putT, if_neg h]; rfl]
   exact put_parted (.leaf p0 w0) n hn b q v hq hf ho (.inl ⟨rfl, h⟩) w hk hT
 | ext p0 t1 ih =>
  intro n hn q hq hf ho p w hk hT
  obtain ⟨b, rfl⟩ := hT.isKnot (by simp)
  by_cases h : common p0 q = p0.length
  ·rw [show putT (.ext p0 t1) q v = joinT p0 (putT t1 (q.drop p0.length) v) from by rw [putT, if_pos h, h]]
   exact put_ext p0 t1 n hn b q v hq hf ho h w hk hT (fun p' w' hk' hT' => ih (n - p0.length) (by omega) _ (by rw [List.length_drop]; omega) (fit_split q _ hf).2 ho.2.2.2 p' w' hk' hT')
  ·rw [show putT (.ext p0 t1) q v = joinT (q.take (common p0 q)) (partedT (.ext p0 t1) (common p0 q) (q.drop (common p0 q)) v) from by rw [putT, if_neg h]; rfl]
   exact put_parted (.ext p0 t1) n hn b q v hq hf ho (.inr ⟨rfl, h⟩) w hk hT
 | br w0 kids ih =>
  intro n hn q hq hf ho p w hk hT
  obtain ⟨b, rfl⟩ := hT.isKnot (by simp)
  cases q with
  | nil => exact put_brE w0 kids b v w hk hT
  | cons a r =>
   have h1 := (fit_cons a r).1 hf
   simp only [List.length_cons] at hq
   have hoa : okT (kids a.toNat) (n - 1) := by
    rcases ho a.toNat with h2 | h2
    ·rw [h2]; trivial
    ·exact h2.2.2
   exact put_br w0 kids b a r v h1.1 (by omega) w hk hT (fun p' w' hk' hT' => ih a.toNat (n - 1) (by omega) r (by omega) h1.2 hoa p' w' hk' hT')
end Go.Proofs.YtjppbomngnomhaaGreatDoor
namespace Go.Proofs.YtjppbomngnomhaaGreatDoor
open Go.RowKit
theorem rg_keep {W w : World} {b o : Nat} {cs : List Value} (h : W.rangeAt b o cs) (hlt : b < W.heap.size) (hb : Below W.heap.size W w) : w.rangeAt b o cs := by
 intro j v hj
 exact (hb.cell (p := ⟨b, o + j, none⟩) hlt).trans (h j v hj)
theorem row_varR {P : Program} {T : TypeId} {n : Nat} (hT : RowT P T n) (w : World) {b off : Nat} {vs : List Value} (hl : vs.length = n) (hR : w.rangeAt b off vs) : (loadVar T ⟨b, off, none⟩).run P w = .ok (.agg vs.toArray) w := by
 obtain ⟨⟨d, h1, h2⟩, h3⟩ := hT
 exact run_loadVar_mid w b off T vs d hR h1 h2 (by rw [hl]; exact h3)
theorem exec_rowR {P : Program} {T : TypeId} {n : Nat} (hT : RowT P T n) {o : Oper} {a : Act} {w : World} (x : Operand) (ho : o.op = .load T x) {b off : Nat} (hx : a.eval x = .pointer (some ⟨b, off, none⟩)) {vs : List Value} (hl : vs.length = n) (hR : w.rangeAt b off vs) : (execOp a.eval o).run P w = .ok (.value (.agg vs.toArray)) w := by
 unfold execOp
 simp only [ho, hx, Instr.loadAt, Instr.sureAddr, Sem.run_bind, Sem.run_pure, Result.andThen_ok, row_varR hT w hl hR]
section
variable {P : Program} {T : TypeId} {n : Nat} {ops : Array Oper} {rest : List Oper} {op : Oper} {a : Act} {w : World} {Q : Exit → Act → World → Prop}
theorem wpList_rowRG (hT : RowT P T n) (hw : Region.wanted op (yielded ops a.tmps) = true) (x : Operand) (ho : op.op = .load T x) {b o : Nat} (hx : a.eval x = .pointer (some ⟨b, o, none⟩)) {vs : List Value} (hl : vs.length = n) (hB : w.rangeAt b o vs)
  (h : wpList P ops Q rest (a.put op.dst (.agg vs.toArray)) w) : wpList P ops Q (op :: rest) a w := by
 obtain ⟨⟨d, h1, h2⟩, h3⟩ := hT
 refine wpList_step fun K hK => ?_
 rw [if_pos hw]
 exact wp_load_mid T x ho b o hx vs d hB h1 h2 (by rw [hl]; exact h3) (hK _ _ h)
end
section
variable {P : Program} {T : TypeId} {n : Nat} {op : Oper} {a : Act} {w : World} {K : Act → World → Prop} {Q : Exit → Act → World → Prop}
theorem wp_rowS (hT : RowT P T n) (x y : Operand) (ho : op.op = .store T x y) {b : Nat} (hx : a.eval x = .pointer (some ⟨b, 0, none⟩)) {vs : List Value} (hy : a.eval y = .agg vs.toArray) (hl : vs.length = n) (h1 : ∀ v ∈ vs, v.oneCell' = true)
  {us : List Value} (hlu : us.length = n) (hB : Blk w b us.toArray)
  (h : ∀ w', Blk w' b vs.toArray → Mod [b] w w' → K (a.put op.dst undef) w') : op.wp P a w K Q := by
 obtain ⟨_, h3⟩ := hT
 have ht : w.there b 0 vs.length := fun j hj => by
  rw [Nat.zero_add, hB.cell, hB.froz]
  simp; omega
 refine wp_store_mid T x y ho b 0 _ hx hy (by simpa using ht) (by simp [hl, h3]) (all_oneCell_toArray h1) ?_
 refine h _ ⟨fun o => ?_, fun o => by rw [World.frozen?_setCells]; exact hB.froz o, ?_⟩ (Mod.setCellsL b _ 0 w)
 ·by_cases ho : o < vs.length
  ·have := World.cell?_setCells_in b vs 0 w (fun i hi => (ht i hi).1) o ho
   rw [Nat.zero_add] at this
   simp only [List.getElem?_toArray]
   rw [List.getElem?_eq_getElem ho]
   exact this
  ·rw [World.cell?_setCells_out b _ 0 w _ (fun _ _ => .inr (by simp at ho ⊢; omega)), hB.cell]
   simp at ho ⊢
   rw [List.getElem?_eq_none (by omega), List.getElem?_eq_none (by omega)]
 ·exact Nat.lt_of_lt_of_le hB.lt (Mod.setCellsL b _ 0 w).size
end
end Go.Proofs.YtjppbomngnomhaaGreatDoor
