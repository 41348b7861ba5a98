/- Parted, Put. -/
import Derived.Test.YtjppbomngnomhaaGreatDoorMv7
set_option linter.unnecessarySimpa false
set_option linter.unusedSimpArgs false
set_option linter.unusedVariables false
set_option maxRecDepth 100000
set_option maxHeartbeats 32000000
namespace Go.Proofs.YtjppbomngnomhaaGreatDoor
open Go.RowKit Pl
theorem run_storePtr (w : World) (b o : Nat) (q : Option Addr) (u : Value) (hc : w.cell? ⟨b, o, none⟩ = some u) (hf : w.frozen? ⟨b, o, none⟩ = false) :
  (Instr.storeAt 66 (.pointer (some ⟨b, o, none⟩)) (.pointer q)).run Tryz.prog w = .ok () (w.setCell ⟨b, o, none⟩ (.pointer q)) := by
 go_simp
theorem wp_storeP {o : Oper} {a : Act} {w : World} {K : Act → World → Prop} {Q : Exit → Act → World → Prop} (x y : Operand) (ho : o.op = .store 66 x y) (b i : Nat) (hx : a.eval x = .pointer (some ⟨b, i, none⟩)) (q : Option Addr) (hy : a.eval y = .pointer q)
  (u : Value) (hc : w.cell? ⟨b, i, none⟩ = some u) (hf : w.frozen? ⟨b, i, none⟩ = false) (h : K (a.put o.dst undef) (w.setCell ⟨b, i, none⟩ (.pointer q))) : o.wp Tryz.prog a w K Q := by
 unfold Oper.wp execOp
 simp only [ho, hx, hy, Sem.run_bind, Sem.run_pure, Result.andThen_ok, run_storePtr w b i q u hc hf]
 exact h
theorem wpList_allocP {ops : Array Oper} {rest : List Oper} {o : Oper} {a : Act} {w : World} {Q : Exit → Act → World → Prop} (hgd : o.guard = none) (ho : o.op = .alloc 77)
  (h : ∀ k w', w.heap.size ≤ k → Blk w' k (pk noP).toArray → Below w.heap.size w w' → wpList Tryz.prog ops Q rest (a.put o.dst (.pointer (some ⟨k, 0, none⟩))) w') : wpList Tryz.prog ops Q (o :: rest) a w :=
 wpList_plain hgd fun K hK => wp_allocK 77 ho (pk noP).toArray (fun w => by
  unfold execOp
  simp only [ho, pk_no]
  go_simp) (fun k w' h1 h2 h3 => hK _ _ (h k w' h1 h2 h3))
theorem pk_set (ps : Ps) (p : Option Nat) : ∀ i, i < 16 → (pk ps).toArray.setIfInBounds i (ptV p) = (pk (updP ps i p)).toArray
 | 0, _ => rfl
 | 1, _ => rfl
 | 2, _ => rfl
 | 3, _ => rfl
 | 4, _ => rfl
 | 5, _ => rfl
 | 6, _ => rfl
 | 7, _ => rfl
 | 8, _ => rfl
 | 9, _ => rfl
 | 10, _ => rfl
 | 11, _ => rfl
 | 12, _ => rfl
 | 13, _ => rfl
 | 14, _ => rfl
 | 15, _ => rfl
 | i + 16, h => absurd h (by omega)
theorem pk_cell {w : World} {m : Nat} {ps : Ps} (h : Blk w m (pk ps).toArray) (i : Nat) (hi : i < 16) : w.cell? ⟨m, i, none⟩ = some (ptV (ps i)) := (h.cell i).trans (by rw [List.getElem?_toArray]; exact pk_at ps i hi)
theorem KAt.other {w : World} {m : Nat} {ps : Ps} (hm : Blk w m (pk ps).toArray) (i : Nat) (v : Value) {t : Tri} {p : Option Nat} (h : KAt w t p) : KAt (w.setCell ⟨m, i, none⟩ v) t p := by
 induction h with
 | nil => exact .nil
 | knot t b ps' h hk hB ih =>
  refine .knot t b ps' h ih (hB.other (a := ⟨m, i, none⟩) ?_ v)
  intro e
  have e' : m = b := e
  subst e'
  have c1 := hB.kn.many
  rw [hm.cell 37, List.getElem?_toArray, List.getElem?_eq_none (by rw [pk_len]; omega)] at c1
  cases c1
theorem kat_other {w : World} {m : Nat} {ps qs : Ps} (hm : Blk w m (pk qs).toArray) (i : Nat) (v : Value) {f : Nat → Tri} (h : ∀ i, i < 16 → KAt w (f i) (ps i)) : ∀ j, j < 16 → KAt (w.setCell ⟨m, i, none⟩ v) (f j) (ps j) := fun j hj => (h j hj).other hm i v
theorem kat_keep {W w : World} (hb : Below W.heap.size W w) {f : Nat → Tri} {ps : Ps} (h : ∀ i, i < 16 → KAt W (f i) (ps i)) : ∀ i, i < 16 → KAt w (f i) (ps i) := fun i hi => (h i hi).keep hb
theorem Mod.keepC {l : List Nat} {W w : World} (h : Mod l W w) {b o : Nat} {v : Value} (hn : b ∉ l) (hc : W.cell? ⟨b, o, none⟩ = some v) : w.cell? ⟨b, o, none⟩ = some v :=
 (World.cell?_of_block (w := W) (h.block b (by
  rcases Nat.lt_or_ge b W.heap.size with h1 | h1
  ·exact h1
  ·simp [World.cell?, Array.getElem?_eq_none h1] at hc) hn)).trans hc
def partedT (t : Tri) (c : Nat) (q v : Bs) : Tri := match t with
 | .leaf p w => partT (ownT p w c) (oldK (fun r => .leaf r w) (p.drop c)) q v
 | .ext p t => partT [] (oldK (fun r => joinT r t) (p.drop c)) q v
 | t => t
theorem parted_any (t : Tri) (b c : Nat) (q v : Bs) (n : Nat) (hn : n ≤ 900) (hq : q.length ≤ 900) (hfq : fit q = true) (ho : okT t n) (hkd : (kindT t = 1 ∧ c ≤ (pathT t).length) ∨ (kindT t = 2 ∧ c < (pathT t).length)) (w : World) (hk : KT w) (hT : KAt w t (some b)) :
  Calls Tryz.prog 67 #[.pointer (some ⟨b, 0, none⟩), .int .i64 c, .string ⟨List.toArray q⟩, .string ⟨List.toArray v⟩] w (KOut w.heap.size w (partedT t c q v)) := by
 obtain ⟨hne, ps, hps, ⟨c0, c1, c2, _, _, _, c6⟩, _⟩ := hT.open
 have hop := okT_path t n ho
 have HK := Lib.hid hk
 have HBL := Lib.hid (show b < w.heap.size from by obtain ⟨_, _, _, _, h⟩ := hT.open; exact h.lt)
 cases t with
 | nil => exact absurd rfl hne
 | br v kids => simp [kindT] at hkd
 | leaf p w0 =>
  simp only [kindT, pathT, valT] at c0 c1 c2 hop hkd
  have hcp : c ≤ p.length := by omega
  have hpl := hop.1
  have hfd := (fit_split p c hop.2.1).2
  have hci : (c : Int) ≤ (p.length : Int) := by omega
  have hst : List.take (p.length - c) (p.drop c) = p.drop c := List.take_of_length_le (by simp)
  have hdl : (p.drop c).length = p.length - c := List.length_drop
  clear hkd hop hne hps hT ho hk c6
  cases hd : p.drop c with
  | nil =>
   rw [hd] at hst
   have HG : Hid (partedT (.leaf p w0) c q v = partT w0 noT q v) := Lib.hid (by simp [partedT, ownT, hd, oldK])
   rw [HG.out]
   clear hfd hdl
   cases q with
   | nil =>
    rw [show partT w0 noT [] v = .br v noT from rfl]
    go_enter Tryz.func67, Tryz.ntmps67
    go_wp2_with (first
     | (refine wpList_allocP rfl rfl ?_
        intro m w1 hm BT hbT
        replace c0 := keepC hbT c0
        replace c1 := keepC hbT c1
        replace c2 := keepC hbT c2
        have HT := Lib.hid (kat_no w1))
     | (refine wpList_rowLoad row16p rfl (.tmp 9) rfl rfl (pk_len noP) BT ?_)
     | fail)
    clear c0 c1 c2 hd hst hci
    have HBR := Lib.hid (branch_any v noT noP _ (HK.out.keep hbT) HT.out)
    refine HBR.out.mono ?_
    rintro e w9 ⟨b9, rfl, hb9, hK9⟩
    go_wp2_with fail
    go_ret
    exact ⟨b9, rfl, hbT.trans (hb9.mono hbT.size), hK9⟩
   | cons a r =>
    rw [show partT w0 noT (a :: r) v = .br w0 (updT noT a.toNat (.leaf r v)) from rfl]
    have ha : a.toNat < 16 := ((fit_cons a r).1 hfq).1
    have HLF := Lib.hid (fun W (h : KT W) => leaf_any r v (by simp at hq; omega) W h)
    have i1 : 0 ≤ (a.toNat : Int) ∧ (a.toNat : Int) < 16 := by omega
    have i2 : (1 : Int) ≤ (r.length : Int) + 1 := by omega
    go_enter Tryz.func67, Tryz.ntmps67
    go_wp2_with (first
     | (refine wpList_allocP rfl rfl ?_
        intro m w1 hm BT hbT
        replace c0 := keepC hbT c0
        replace c1 := keepC hbT c1
        replace c2 := keepC hbT c2
        have HT := Lib.hid (kat_no w1))
     | fail)
    clear c0 c1 c2 hd hst hci
    have HBT := Lib.hid BT
    have HbT := Lib.hid hbT
    clear BT hbT hfq
    refine wpH_startM [m] (by kernel_rfl) (fun hS => ?_)
    (refine hP 0 ?_ ⟨some 59, .move (.tmp 2), 9, "", #[], none⟩ hS ?_ ?_; rotate_left; focus (intro w; go_simp; try with_reducible rfl))
    try simp only [pna, pnb, pnc, pnd, pne]
    (refine hP 1 ?_ ⟨some 60, .index 9 (.tmp 59) (.const (.int .i64 0)), 5, "", #[], none⟩ hS ?_ ?_; rotate_left; focus (intro w; go_simp; try with_reducible rfl))
    try simp only [pna, pnb, pnc, pnd, pne]
    (refine hP 2 ?_ ⟨some 61, .move (.tmp 2), 9, "", #[], none⟩ hS ?_ ?_; rotate_left; focus (intro w; go_simp; try with_reducible rfl))
    try simp only [pna, pnb, pnc, pnd, pne]
    (refine hP 3 ?_ ⟨some 62, .slice 9 (.tmp 61) (some (.const (.int .i64 1))) none none, 9, "", #[], none⟩ hS ?_ ?_; rotate_left; focus (intro w; go_simp; try with_reducible rfl))
    try simp only [pna, pnb, pnc, pnd, pne]
    (refine hP 4 ?_ ⟨some 63, .move (.tmp 3), 9, "", #[], none⟩ hS ?_ ?_; rotate_left; focus (intro w; go_simp; try with_reducible rfl))
    try simp only [pna, pnb, pnc, pnd, pne]
    refine wpH_call 5 (oi := { dst := some 64, op := Op.call { callee := Callee.value (Operand.func 64), args := #[Operand.tmp 62, Operand.tmp 63], argTypes := #[9, 9] }, type := 66, pos := "knot.go:115", after := #[{ on := 3, ground := Ground.data }, { on := 4, ground := Ground.data }], guard := none }) rfl (by kernel_rfl) (by rfl) (HLF.out _ ((HK.out.keep HbT.out).keep (Below.refl _ _).drew)) ?_ ?_
    ·(go_simp; try rfl)
    rintro e w' ⟨b8, rfl, hbx, hK8⟩
    refine ⟨_, rfl, hS.trans (Mod.of_below hbx), ?_⟩
    replace hS := hS.trans (Mod.of_below hbx)
    try simp only [pna, pnb, pnc, pnd, pne]
    (refine hP 6 ?_ ⟨some 65, .indexAddr 77 (.tmp 9) (.tmp 60), 0, "", #[], none⟩ hS ?_ ?_; rotate_left; focus (intro w; go_simp; try with_reducible rfl))
    try simp only [pna, pnb, pnc, pnd, pne]
    refine wpH_op 7 (oi := { dst := none, op := Op.store 66 (Operand.tmp 65) (Operand.tmp 64), type := 0, pos := "knot.go:115", after := #[{ on := 6, ground := Ground.data }, { on := 5, ground := Ground.data }, { on := 5, ground := Ground.chain }, { on := 0, ground := Ground.phase }, { on := 1, ground := Ground.phase }, { on := 2, ground := Ground.phase }, { on := 3, ground := Ground.phase }, { on := 4, ground := Ground.phase }, { on := 5, ground := Ground.phase }], guard := none }) rfl (by kernel_rfl) (by rfl) ?_
    refine wp_storeP (.tmp 65) (.tmp 64) rfl m a.toNat rfl (some ⟨b8, 0, none⟩) rfl _ (pk_cell (HBT.out.drew.keep hbx) a.toNat ha) ((HBT.out.drew.keep hbx).froz _) ?_
    refine ⟨hS.setCell (.inl (by simp)) _, ?_⟩
    try simp only [pna, pnb, pnc, pnd, pne]
    refine wpAnyH_done (by kernel_rfl) ?_ _
    have B3 := HBT.out.drew.keep hbx
    have HT3 := Lib.hid (kat_upd (kat_other B3 a.toNat (.pointer (some ⟨b8, 0, none⟩)) (kat_keep hbx (kat_keep (Below.refl _ _).drew HT.out))) a.toNat (hK8.other B3 a.toNat (.pointer (some ⟨b8, 0, none⟩))))
    have B4 := B3.set a.toNat (ptV (some b8))
    rw [pk_set _ _ _ ha, ptV_some] at B4
    have hb4 : Below w.heap.size w _ := ((HbT.out.drew).trans (hbx.mono HbT.out.size)).setCell (p := ⟨m, a.toNat, none⟩) hm (.pointer (some ⟨b8, 0, none⟩))
    clear hbx hK8 hS B3
    generalize World.setCell _ ⟨m, a.toNat, none⟩ (.pointer (some ⟨b8, 0, none⟩)) = W3 at *
    have HBR := Lib.hid (branch_any w0 (updT noT a.toNat (.leaf r v)) _ W3 (HK.out.keep hb4) HT3.out)
    go_wp2_with (first
     | (refine wpList_rowLoad row16p rfl (.tmp 9) rfl rfl (pk_len (updP noP a.toNat (some b8))) B4 ?_)
     | fail)
    refine HBR.out.mono ?_
    rintro e w9 ⟨b9, rfl, hb9, hK9⟩
    go_wp2_with fail
    go_ret
    exact ⟨b9, rfl, hb4.trans (hb9.mono hb4.size), hK9⟩
  | cons x y =>
   rw [hd] at hst hfd hdl
   have HG : Hid (partedT (.leaf p w0) c q v = partT [] (updT noT x.toNat (.leaf y w0)) q v) := Lib.hid (by simp [partedT, ownT, hd, oldK])
   rw [HG.out]
   have hx : x.toNat < 16 := ((fit_cons x y).1 hfd).1
   have hyl : y.length ≤ 1000 := by simp at hdl; omega
   have HLX := Lib.hid (fun W (h : KT W) => leaf_any y w0 hyl W h)
   have i0 : 0 ≤ (x.toNat : Int) ∧ (x.toNat : Int) < 16 := by omega
   have i3 : (1 : Int) ≤ (y.length : Int) + 1 := by omega
   clear hfd hdl
   go_enter Tryz.func67, Tryz.ntmps67
   go_wp2_with (first
    | (refine wpList_allocP rfl rfl ?_
       intro m w1 hm B1 hb1
       replace c0 := keepC hb1 c0
       replace c1 := keepC hb1 c1
       replace c2 := keepC hb1 c2)
    | fail)
   have HC2 := Lib.hid c2
   have hbl : b < m := by have := HBL.out; omega
   obtain ⟨W, hW⟩ := Below.name hb1
   subst hW
   have HB1 := Lib.hid B1
   have HW1 := Lib.hid hb1
   clear B1 hb1 c0 c1 c2 hd hst hci
   refine wpH_startM [m] (by kernel_rfl) (fun hS => ?_)
   (refine hP 0 ?_ ⟨some 45, .move (.tmp 11), 9, "", #[], none⟩ hS ?_ ?_; rotate_left; focus (intro w; go_simp; try with_reducible rfl))
   try simp only [pna, pnb, pnc, pnd, pne]
   (refine hP 1 ?_ ⟨some 46, .index 9 (.tmp 45) (.const (.int .i64 0)), 5, "", #[], none⟩ hS ?_ ?_; rotate_left; focus (intro w; go_simp; try with_reducible rfl))
   try simp only [pna, pnb, pnc, pnd, pne]
   (refine hP 2 ?_ ⟨some 47, .move (.tmp 11), 9, "", #[], none⟩ hS ?_ ?_; rotate_left; focus (intro w; go_simp; try with_reducible rfl))
   try simp only [pna, pnb, pnc, pnd, pne]
   (refine hP 3 ?_ ⟨some 48, .slice 9 (.tmp 47) (some (.const (.int .i64 1))) none none, 9, "", #[], none⟩ hS ?_ ?_; rotate_left; focus (intro w; go_simp; try with_reducible rfl))
   try simp only [pna, pnb, pnc, pnd, pne]
   (refine hP 4 ?_ ⟨some 49, .move (.tmp 0), 66, "", #[], none⟩ hS ?_ ?_; rotate_left; focus (intro w; go_simp; try with_reducible rfl))
   try simp only [pna, pnb, pnc, pnd, pne]
   (refine hP 5 ?_ ⟨some 50, .nilCheck (.tmp 49), 0, "", #[], none⟩ hS ?_ ?_; rotate_left; focus (intro w; go_simp; try with_reducible rfl))
   try simp only [pna, pnb, pnc, pnd, pne]
   (refine hP 6 ?_ ⟨some 51, .fieldAddr 79 (.tmp 50) 0, 0, "", #[], none⟩ hS ?_ ?_; rotate_left; focus (intro w; go_simp; try with_reducible rfl))
   try simp only [pna, pnb, pnc, pnd, pne]
   (refine hP 7 ?_ ⟨some 52, .fieldAddr 76 (.tmp 51) 2, 0, "", #[], none⟩ hS ?_ ?_; rotate_left; focus (intro w; go_simp; try with_reducible rfl))
   try simp only [pna, pnb, pnc, pnd, pne]
   refine wpH_load 8 (.string ⟨List.toArray w0⟩) (oi := { dst := some 53, op := Op.load 9 (Operand.tmp 52), type := 9, pos := "knot.go:108", after := #[{ on := 7, ground := Ground.data }], guard := none }) rfl (by kernel_rfl) (by kernel_rfl) (by kernel_rfl) (by rfl) hS (fun _ _ _ h => h) (fun w hb => (by have c := hb.keepC (by simp; omega) HC2.out; go_simp; try rfl)) ?_
   try simp only [pna, pnb, pnc, pnd, pne]
   refine wpH_call 9 (oi := { dst := some 54, op := Op.call { callee := Callee.value (Operand.func 64), args := #[Operand.tmp 48, Operand.tmp 53], argTypes := #[9, 9] }, type := 66, pos := "knot.go:108", after := #[{ on := 3, ground := Ground.data }, { on := 8, ground := Ground.data }], guard := none }) rfl (by kernel_rfl) (by rfl) (HLX.out _ ((HK.out.keep HW1.out).keep (Below.refl _ _).drew)) ?_ ?_
   ·(go_simp; try rfl)
   rintro e w' ⟨b4, rfl, hbx, hK4⟩
   refine ⟨_, rfl, hS.trans (Mod.of_below hbx), ?_⟩
   replace hS := hS.trans (Mod.of_below hbx)
   try simp only [pna, pnb, pnc, pnd, pne]
   (refine hP 10 ?_ ⟨some 55, .indexAddr 77 (.tmp 9) (.tmp 46), 0, "", #[], none⟩ hS ?_ ?_; rotate_left; focus (intro w; go_simp; try with_reducible rfl))
   try simp only [pna, pnb, pnc, pnd, pne]
   refine wpH_op 11 (oi := { dst := none, op := Op.store 66 (Operand.tmp 55) (Operand.tmp 54), type := 0, pos := "knot.go:108", after := #[{ on := 10, ground := Ground.data }, { on := 9, ground := Ground.data }, { on := 9, ground := Ground.chain }, { on := 0, ground := Ground.phase }, { on := 1, ground := Ground.phase }, { on := 2, ground := Ground.phase }, { on := 3, ground := Ground.phase }, { on := 4, ground := Ground.phase }, { on := 5, ground := Ground.phase }, { on := 6, ground := Ground.phase }, { on := 7, ground := Ground.phase }, { on := 8, ground := Ground.phase }, { on := 9, ground := Ground.phase }], guard := none }) rfl (by kernel_rfl) (by rfl) ?_
   refine wp_storeP (.tmp 55) (.tmp 54) rfl m x.toNat rfl (some ⟨b4, 0, none⟩) rfl _ (pk_cell (HB1.out.drew.keep hbx) x.toNat hx) ((HB1.out.drew.keep hbx).froz _) ?_
   refine ⟨hS.setCell (.inl (by simp)) _, ?_⟩
   try simp only [pna, pnb, pnc, pnd, pne]
   refine wpAnyH_done (by kernel_rfl) ?_ _
   have B3 := HB1.out.drew.keep hbx
   have HT := Lib.hid (kat_upd (kat_no _) x.toNat (hK4.other B3 x.toNat (.pointer (some ⟨b4, 0, none⟩))))
   have BT := B3.set x.toNat (ptV (some b4))
   rw [pk_set _ _ _ hx, ptV_some] at BT
   have hbT : Below w.heap.size w _ := ((HW1.out.drew).trans (hbx.mono HW1.out.size)).setCell (p := ⟨m, x.toNat, none⟩) hm (.pointer (some ⟨b4, 0, none⟩))
   clear hbx hK4 hS B3
   generalize World.setCell _ ⟨m, x.toNat, none⟩ (.pointer (some ⟨b4, 0, none⟩)) = W2 at *
   cases q with
   | nil =>
    rw [show partT [] (updT noT x.toNat (.leaf y w0)) [] v = .br v (updT noT x.toNat (.leaf y w0)) from rfl]
    have HBR := Lib.hid (branch_any v (updT noT x.toNat (.leaf y w0)) (updP noP x.toNat (some b4)) _ (HK.out.keep hbT) HT.out)
    go_wp2_with (first
     | (refine wpList_rowLoad row16p rfl (.tmp 9) rfl rfl (pk_len (updP noP x.toNat (some b4))) BT ?_)
     | fail)
    refine HBR.out.mono ?_
    rintro e w9 ⟨b9, rfl, hb9, hK9⟩
    go_wp2_with fail
    go_ret
    exact ⟨b9, rfl, hbT.trans (hb9.mono hbT.size), hK9⟩
   | cons a r =>
    rw [show partT [] (updT noT x.toNat (.leaf y w0)) (a :: r) v = .br [] (updT (updT noT x.toNat (.leaf y w0)) a.toNat (.leaf r v)) from rfl]
    have ha : a.toNat < 16 := ((fit_cons a r).1 hfq).1
    have HLF := Lib.hid (fun W (h : KT W) => leaf_any r v (by simp at hq; omega) W h)
    have i1 : 0 ≤ (a.toNat : Int) ∧ (a.toNat : Int) < 16 := by omega
    have i2 : (1 : Int) ≤ (r.length : Int) + 1 := by omega
    have HBT := Lib.hid BT
    have HbT := Lib.hid hbT
    clear BT hbT hfq
    go_wp2_with fail
    refine wpH_startM [m] (by kernel_rfl) (fun hS => ?_)
    (refine hP 0 ?_ ⟨some 59, .move (.tmp 2), 9, "", #[], none⟩ hS ?_ ?_; rotate_left; focus (intro w; go_simp; try with_reducible rfl))
    try simp only [pna, pnb, pnc, pnd, pne]
    (refine hP 1 ?_ ⟨some 60, .index 9 (.tmp 59) (.const (.int .i64 0)), 5, "", #[], none⟩ hS ?_ ?_; rotate_left; focus (intro w; go_simp; try with_reducible rfl))
    try simp only [pna, pnb, pnc, pnd, pne]
    (refine hP 2 ?_ ⟨some 61, .move (.tmp 2), 9, "", #[], none⟩ hS ?_ ?_; rotate_left; focus (intro w; go_simp; try with_reducible rfl))
    try simp only [pna, pnb, pnc, pnd, pne]
    (refine hP 3 ?_ ⟨some 62, .slice 9 (.tmp 61) (some (.const (.int .i64 1))) none none, 9, "", #[], none⟩ hS ?_ ?_; rotate_left; focus (intro w; go_simp; try with_reducible rfl))
    try simp only [pna, pnb, pnc, pnd, pne]
    (refine hP 4 ?_ ⟨some 63, .move (.tmp 3), 9, "", #[], none⟩ hS ?_ ?_; rotate_left; focus (intro w; go_simp; try with_reducible rfl))
    try simp only [pna, pnb, pnc, pnd, pne]
    refine wpH_call 5 (oi := { dst := some 64, op := Op.call { callee := Callee.value (Operand.func 64), args := #[Operand.tmp 62, Operand.tmp 63], argTypes := #[9, 9] }, type := 66, pos := "knot.go:115", after := #[{ on := 3, ground := Ground.data }, { on := 4, ground := Ground.data }], guard := none }) rfl (by kernel_rfl) (by rfl) (HLF.out _ ((HK.out.keep HbT.out).keep (Below.refl _ _).drew)) ?_ ?_
    ·(go_simp; try rfl)
    rintro e w' ⟨b8, rfl, hbx, hK8⟩
    refine ⟨_, rfl, hS.trans (Mod.of_below hbx), ?_⟩
    replace hS := hS.trans (Mod.of_below hbx)
    try simp only [pna, pnb, pnc, pnd, pne]
    (refine hP 6 ?_ ⟨some 65, .indexAddr 77 (.tmp 9) (.tmp 60), 0, "", #[], none⟩ hS ?_ ?_; rotate_left; focus (intro w; go_simp; try with_reducible rfl))
    try simp only [pna, pnb, pnc, pnd, pne]
    refine wpH_op 7 (oi := { dst := none, op := Op.store 66 (Operand.tmp 65) (Operand.tmp 64), type := 0, pos := "knot.go:115", after := #[{ on := 6, ground := Ground.data }, { on := 5, ground := Ground.data }, { on := 5, ground := Ground.chain }, { on := 0, ground := Ground.phase }, { on := 1, ground := Ground.phase }, { on := 2, ground := Ground.phase }, { on := 3, ground := Ground.phase }, { on := 4, ground := Ground.phase }, { on := 5, ground := Ground.phase }], guard := none }) rfl (by kernel_rfl) (by rfl) ?_
    refine wp_storeP (.tmp 65) (.tmp 64) rfl m a.toNat rfl (some ⟨b8, 0, none⟩) rfl _ (pk_cell (HBT.out.drew.keep hbx) a.toNat ha) ((HBT.out.drew.keep hbx).froz _) ?_
    refine ⟨hS.setCell (.inl (by simp)) _, ?_⟩
    try simp only [pna, pnb, pnc, pnd, pne]
    refine wpAnyH_done (by kernel_rfl) ?_ _
    have B3 := HBT.out.drew.keep hbx
    have HT3 := Lib.hid (kat_upd (kat_other B3 a.toNat (.pointer (some ⟨b8, 0, none⟩)) (kat_keep hbx (kat_keep (Below.refl _ _).drew HT.out))) a.toNat (hK8.other B3 a.toNat (.pointer (some ⟨b8, 0, none⟩))))
    have B4 := B3.set a.toNat (ptV (some b8))
    rw [pk_set _ _ _ ha, ptV_some] at B4
    have hb4 : Below w.heap.size w _ := ((HbT.out.drew).trans (hbx.mono HbT.out.size)).setCell (p := ⟨m, a.toNat, none⟩) hm (.pointer (some ⟨b8, 0, none⟩))
    clear hbx hK8 hS B3
    generalize World.setCell _ ⟨m, a.toNat, none⟩ (.pointer (some ⟨b8, 0, none⟩)) = W3 at *
    have HBR := Lib.hid (branch_any [] (updT (updT noT x.toNat (.leaf y w0)) a.toNat (.leaf r v)) _ W3 (HK.out.keep hb4) HT3.out)
    go_wp2_with (first
     | (refine wpList_rowLoad row16p rfl (.tmp 9) rfl rfl (pk_len (updP (updP noP x.toNat (some b4)) a.toNat (some b8))) B4 ?_)
     | fail)
    refine HBR.out.mono ?_
    rintro e w9 ⟨b9, rfl, hb9, hK9⟩
    go_wp2_with fail
    go_ret
    exact ⟨b9, rfl, hb4.trans (hb9.mono hb4.size), hK9⟩
 | ext p t1 =>
  simp only [kindT, pathT, valT] at c0 c1 c2 hop hkd
  have hcp : c < p.length := by omega
  have hpl := hop.1
  have hfd := (fit_split p c hop.2.1).2
  have hci : (c : Int) ≤ (p.length : Int) := by omega
  have hst : List.take (p.length - c) (p.drop c) = p.drop c := List.take_of_length_le (by simp)
  have hdl : (p.drop c).length = p.length - c := List.length_drop
  have hk0 := hps 0 (by omega)
  rw [show kidsOf (.ext p t1) 0 = t1 from by simp [kidsOf, updT]] at hk0
  have ht1 : t1 ≠ .nil := ho.2.2.1.1
  have hp1 : (pathT t1).length ≤ n - p.length := (okT_path t1 _ ho.2.2.2).1
  obtain ⟨b1, e1⟩ := hk0.isKnot ht1
  rw [e1] at hk0 c6
  rw [ptV_some] at c6
  clear hkd hop hne hps hT hk ht1 ho e1 c2
  cases hd : p.drop c with
  | nil => rw [hd] at hdl; simp at hdl; omega
  | cons x y =>
   rw [hd] at hst hfd hdl
   have HG : Hid (partedT (.ext p t1) c q v = partT [] (updT noT x.toNat (joinT y t1)) q v) := Lib.hid (by simp [partedT, hd, oldK])
   rw [HG.out]
   have hx : x.toNat < 16 := ((fit_cons x y).1 hfd).1
   have hyl : y.length ≤ 900 := by simp at hdl; omega
   have HLX := Lib.hid (fun W (h : KT W) (hK : KAt W t1 (some b1)) => joined_any y t1 b1 W h hK (by simp at hdl; omega))
   have HK0 := Lib.hid hk0
   have i0 : 0 ≤ (x.toNat : Int) ∧ (x.toNat : Int) < 16 := by omega
   have i3 : (1 : Int) ≤ (y.length : Int) + 1 := by omega
   clear hfd hdl hk0 hp1
   go_enter Tryz.func67, Tryz.ntmps67
   go_wp2_with (first
    | (refine wpList_allocP rfl rfl ?_
       intro m w1 hm B1 hb1
       replace c0 := keepC hb1 c0
       replace c1 := keepC hb1 c1
       replace c6 := keepC hb1 c6)
    | fail)
   have HC6 := Lib.hid c6
   have hbl : b < m := by have := HBL.out; omega
   obtain ⟨W, hW⟩ := Below.name hb1
   subst hW
   have HB1 := Lib.hid B1
   have HW1 := Lib.hid hb1
   clear B1 hb1 c0 c1 c6 hd hst hci
   refine wpH_startM [m] (by kernel_rfl) (fun hS => ?_)
   (refine hP 0 ?_ ⟨some 19, .move (.tmp 11), 9, "", #[], none⟩ hS ?_ ?_; rotate_left; focus (intro w; go_simp; try with_reducible rfl))
   try simp only [pna, pnb, pnc, pnd, pne]
   (refine hP 1 ?_ ⟨some 20, .index 9 (.tmp 19) (.const (.int .i64 0)), 5, "", #[], none⟩ hS ?_ ?_; rotate_left; focus (intro w; go_simp; try with_reducible rfl))
   try simp only [pna, pnb, pnc, pnd, pne]
   (refine hP 2 ?_ ⟨some 21, .move (.tmp 11), 9, "", #[], none⟩ hS ?_ ?_; rotate_left; focus (intro w; go_simp; try with_reducible rfl))
   try simp only [pna, pnb, pnc, pnd, pne]
   (refine hP 3 ?_ ⟨some 22, .slice 9 (.tmp 21) (some (.const (.int .i64 1))) none none, 9, "", #[], none⟩ hS ?_ ?_; rotate_left; focus (intro w; go_simp; try with_reducible rfl))
   try simp only [pna, pnb, pnc, pnd, pne]
   (refine hP 4 ?_ ⟨some 23, .move (.tmp 0), 66, "", #[], none⟩ hS ?_ ?_; rotate_left; focus (intro w; go_simp; try with_reducible rfl))
   try simp only [pna, pnb, pnc, pnd, pne]
   (refine hP 5 ?_ ⟨some 24, .nilCheck (.tmp 23), 0, "", #[], none⟩ hS ?_ ?_; rotate_left; focus (intro w; go_simp; try with_reducible rfl))
   try simp only [pna, pnb, pnc, pnd, pne]
   (refine hP 6 ?_ ⟨some 25, .fieldAddr 79 (.tmp 24) 1, 0, "", #[], none⟩ hS ?_ ?_; rotate_left; focus (intro w; go_simp; try with_reducible rfl))
   try simp only [pna, pnb, pnc, pnd, pne]
   (refine hP 7 ?_ ⟨some 26, .indexAddr 77 (.tmp 25) (.const (.int .i64 0)), 0, "", #[], none⟩ hS ?_ ?_; rotate_left; focus (intro w; go_simp; try with_reducible rfl))
   try simp only [pna, pnb, pnc, pnd, pne]
   refine wpH_load 8 (.pointer (some ⟨b1, 0, none⟩)) (oi := { dst := some 27, op := Op.load 66 (Operand.tmp 26), type := 66, pos := "knot.go:110", after := #[{ on := 7, ground := Ground.data }], guard := none }) rfl (by kernel_rfl) (by kernel_rfl) (by kernel_rfl) (by rfl) hS (fun _ _ _ h => h) (fun w hb => (by have c := hb.keepC (by simp; omega) HC6.out; go_simp; try rfl)) ?_
   try simp only [pna, pnb, pnc, pnd, pne]
   refine wpH_call 9 (oi := { dst := some 28, op := Op.call { callee := Callee.value (Operand.func 63), args := #[Operand.tmp 22, Operand.tmp 27], argTypes := #[9, 66] }, type := 66, pos := "knot.go:110", after := #[{ on := 3, ground := Ground.data }, { on := 8, ground := Ground.data }], guard := none }) rfl (by kernel_rfl) (by rfl) (HLX.out _ ((HK.out.keep HW1.out).keep (Below.refl _ _).drew) ((HK0.out.keep HW1.out).keep (Below.refl _ _).drew)) ?_ ?_
   ·(go_simp; try rfl)
   rintro e w' ⟨b4, rfl, hbx, hK4⟩
   refine ⟨_, rfl, hS.trans (Mod.of_below hbx), ?_⟩
   replace hS := hS.trans (Mod.of_below hbx)
   try simp only [pna, pnb, pnc, pnd, pne]
   (refine hP 10 ?_ ⟨some 29, .indexAddr 77 (.tmp 9) (.tmp 20), 0, "", #[], none⟩ hS ?_ ?_; rotate_left; focus (intro w; go_simp; try with_reducible rfl))
   try simp only [pna, pnb, pnc, pnd, pne]
   refine wpH_op 11 (oi := { dst := none, op := Op.store 66 (Operand.tmp 29) (Operand.tmp 28), type := 0, pos := "knot.go:110", after := #[{ on := 10, ground := Ground.data }, { on := 9, ground := Ground.data }, { on := 9, ground := Ground.chain }, { on := 0, ground := Ground.phase }, { on := 1, ground := Ground.phase }, { on := 2, ground := Ground.phase }, { on := 3, ground := Ground.phase }, { on := 4, ground := Ground.phase }, { on := 5, ground := Ground.phase }, { on := 6, ground := Ground.phase }, { on := 7, ground := Ground.phase }, { on := 8, ground := Ground.phase }, { on := 9, ground := Ground.phase }], guard := none }) rfl (by kernel_rfl) (by rfl) ?_
   refine wp_storeP (.tmp 29) (.tmp 28) rfl m x.toNat rfl (some ⟨b4, 0, none⟩) rfl _ (pk_cell (HB1.out.drew.keep hbx) x.toNat hx) ((HB1.out.drew.keep hbx).froz _) ?_
   refine ⟨hS.setCell (.inl (by simp)) _, ?_⟩
   try simp only [pna, pnb, pnc, pnd, pne]
   refine wpAnyH_done (by kernel_rfl) ?_ _
   have B3 := HB1.out.drew.keep hbx
   have HT := Lib.hid (kat_upd (kat_no _) x.toNat (hK4.other B3 x.toNat (.pointer (some ⟨b4, 0, none⟩))))
   have BT := B3.set x.toNat (ptV (some b4))
   rw [pk_set _ _ _ hx, ptV_some] at BT
   have hbT : Below w.heap.size w _ := ((HW1.out.drew).trans (hbx.mono HW1.out.size)).setCell (p := ⟨m, x.toNat, none⟩) hm (.pointer (some ⟨b4, 0, none⟩))
   clear hbx hK4 hS B3
   generalize World.setCell _ ⟨m, x.toNat, none⟩ (.pointer (some ⟨b4, 0, none⟩)) = W2 at *
   cases q with
   | nil =>
    rw [show partT [] (updT noT x.toNat (joinT y t1)) [] v = .br v (updT noT x.toNat (joinT y t1)) from rfl]
    have HBR := Lib.hid (branch_any v (updT noT x.toNat (joinT y t1)) (updP noP x.toNat (some b4)) _ (HK.out.keep hbT) HT.out)
    go_wp2_with (first
     | (refine wpList_rowLoad row16p rfl (.tmp 9) rfl rfl (pk_len (updP noP x.toNat (some b4))) BT ?_)
     | fail)
    refine HBR.out.mono ?_
    rintro e w9 ⟨b9, rfl, hb9, hK9⟩
    go_wp2_with fail
    go_ret
    exact ⟨b9, rfl, hbT.trans (hb9.mono hbT.size), hK9⟩
   | cons a r =>
    rw [show partT [] (updT noT x.toNat (joinT y t1)) (a :: r) v = .br [] (updT (updT noT x.toNat (joinT y t1)) a.toNat (.leaf r v)) from rfl]
    have ha : a.toNat < 16 := ((fit_cons a r).1 hfq).1
    have HLF := Lib.hid (fun W (h : KT W) => leaf_any r v (by simp at hq; omega) W h)
    have i1 : 0 ≤ (a.toNat : Int) ∧ (a.toNat : Int) < 16 := by omega
    have i2 : (1 : Int) ≤ (r.length : Int) + 1 := by omega
    have HBT := Lib.hid BT
    have HbT := Lib.hid hbT
    clear BT hbT hfq
    go_wp2_with fail
    refine wpH_startM [m] (by kernel_rfl) (fun hS => ?_)
    (refine hP 0 ?_ ⟨some 59, .move (.tmp 2), 9, "", #[], none⟩ hS ?_ ?_; rotate_left; focus (intro w; go_simp; try with_reducible rfl))
    try simp only [pna, pnb, pnc, pnd, pne]
    (refine hP 1 ?_ ⟨some 60, .index 9 (.tmp 59) (.const (.int .i64 0)), 5, "", #[], none⟩ hS ?_ ?_; rotate_left; focus (intro w; go_simp; try with_reducible rfl))
    try simp only [pna, pnb, pnc, pnd, pne]
    (refine hP 2 ?_ ⟨some 61, .move (.tmp 2), 9, "", #[], none⟩ hS ?_ ?_; rotate_left; focus (intro w; go_simp; try with_reducible rfl))
    try simp only [pna, pnb, pnc, pnd, pne]
    (refine hP 3 ?_ ⟨some 62, .slice 9 (.tmp 61) (some (.const (.int .i64 1))) none none, 9, "", #[], none⟩ hS ?_ ?_; rotate_left; focus (intro w; go_simp; try with_reducible rfl))
    try simp only [pna, pnb, pnc, pnd, pne]
    (refine hP 4 ?_ ⟨some 63, .move (.tmp 3), 9, "", #[], none⟩ hS ?_ ?_; rotate_left; focus (intro w; go_simp; try with_reducible rfl))
    try simp only [pna, pnb, pnc, pnd, pne]
    refine wpH_call 5 (oi := { dst := some 64, op := Op.call { callee := Callee.value (Operand.func 64), args := #[Operand.tmp 62, Operand.tmp 63], argTypes := #[9, 9] }, type := 66, pos := "knot.go:115", after := #[{ on := 3, ground := Ground.data }, { on := 4, ground := Ground.data }], guard := none }) rfl (by kernel_rfl) (by rfl) (HLF.out _ ((HK.out.keep HbT.out).keep (Below.refl _ _).drew)) ?_ ?_
    ·(go_simp; try rfl)
    rintro e w' ⟨b8, rfl, hbx, hK8⟩
    refine ⟨_, rfl, hS.trans (Mod.of_below hbx), ?_⟩
    replace hS := hS.trans (Mod.of_below hbx)
    try simp only [pna, pnb, pnc, pnd, pne]
    (refine hP 6 ?_ ⟨some 65, .indexAddr 77 (.tmp 9) (.tmp 60), 0, "", #[], none⟩ hS ?_ ?_; rotate_left; focus (intro w; go_simp; try with_reducible rfl))
    try simp only [pna, pnb, pnc, pnd, pne]
    refine wpH_op 7 (oi := { dst := none, op := Op.store 66 (Operand.tmp 65) (Operand.tmp 64), type := 0, pos := "knot.go:115", after := #[{ on := 6, ground := Ground.data }, { on := 5, ground := Ground.data }, { on := 5, ground := Ground.chain }, { on := 0, ground := Ground.phase }, { on := 1, ground := Ground.phase }, { on := 2, ground := Ground.phase }, { on := 3, ground := Ground.phase }, { on := 4, ground := Ground.phase }, { on := 5, ground := Ground.phase }], guard := none }) rfl (by kernel_rfl) (by rfl) ?_
    refine wp_storeP (.tmp 65) (.tmp 64) rfl m a.toNat rfl (some ⟨b8, 0, none⟩) rfl _ (pk_cell (HBT.out.drew.keep hbx) a.toNat ha) ((HBT.out.drew.keep hbx).froz _) ?_
    refine ⟨hS.setCell (.inl (by simp)) _, ?_⟩
    try simp only [pna, pnb, pnc, pnd, pne]
    refine wpAnyH_done (by kernel_rfl) ?_ _
    have B3 := HBT.out.drew.keep hbx
    have HT3 := Lib.hid (kat_upd (kat_other B3 a.toNat (.pointer (some ⟨b8, 0, none⟩)) (kat_keep hbx (kat_keep (Below.refl _ _).drew HT.out))) a.toNat (hK8.other B3 a.toNat (.pointer (some ⟨b8, 0, none⟩))))
    have B4 := B3.set a.toNat (ptV (some b8))
    rw [pk_set _ _ _ ha, ptV_some] at B4
    have hb4 : Below w.heap.size w _ := ((HbT.out.drew).trans (hbx.mono HbT.out.size)).setCell (p := ⟨m, a.toNat, none⟩) hm (.pointer (some ⟨b8, 0, none⟩))
    clear hbx hK8 hS B3
    generalize World.setCell _ ⟨m, a.toNat, none⟩ (.pointer (some ⟨b8, 0, none⟩)) = W3 at *
    have HBR := Lib.hid (branch_any [] (updT (updT noT x.toNat (joinT y t1)) a.toNat (.leaf r v)) _ W3 (HK.out.keep hb4) HT3.out)
    go_wp2_with (first
     | (refine wpList_rowLoad row16p rfl (.tmp 9) rfl rfl (pk_len (updP (updP noP x.toNat (some b4)) a.toNat (some b8))) B4 ?_)
     | fail)
    refine HBR.out.mono ?_
    rintro e w9 ⟨b9, rfl, hb9, hK9⟩
    go_wp2_with fail
    go_ret
    exact ⟨b9, rfl, hb4.trans (hb9.mono hb4.size), hK9⟩
end Go.Proofs.YtjppbomngnomhaaGreatDoor
namespace Go.Proofs.YtjppbomngnomhaaGreatDoor
open Go.RowKit Pl
theorem pk_one (ps : Ps) : ∀ v ∈ pk ps, v.oneCell' = true := by
 intro v hv
 unfold pk at hv
 rw [List.mem_map] at hv
 obtain ⟨i, _, rfl⟩ := hv
 cases ps i <;> rfl
theorem load_ptr (w : World) (b o : Nat) (p : Option Nat) (h : w.cell? ⟨b, o, none⟩ = some (ptV p)) : (loadVar 66 ⟨b, o, none⟩).run Tryz.prog w = .ok (ptV p) w := by
 cases p <;> simp only [ptV_none, ptV_some] at h ⊢ <;> go_simp
theorem parted_br (t : Tri) (c : Nat) (q v : Bs) (h : kindT t = 1 ∨ kindT t = 2) : pathT (partedT t c q v) = [] := by
 cases t with
 | nil => simp [kindT] at h
 | leaf p w => cases q <;> rfl
 | ext p t => cases q <;> rfl
 | br v kids => simp [kindT] at h
theorem put_parted (t : Tri) (n : Nat) (hn : n ≤ 400) (b : Nat) (q v : Bs) (hq : q.length ≤ n) (hf : fit q = true) (ho : okT t n)
  (hkd : (kindT t = 1 ∧ ¬ (common (pathT t) q = (pathT t).length ∧ common (pathT t) q = q.length)) ∨ (kindT t = 2 ∧ common (pathT t) q ≠ (pathT t).length)) (w : World) (hk : KT w) (hT : KAt w t (some b)) :
  Calls Tryz.prog 48 #[.pointer (some ⟨b, 0, none⟩), .string ⟨List.toArray q⟩, .string ⟨List.toArray v⟩] w (KOut w.heap.size w (joinT (q.take (common (pathT t) q)) (partedT t (common (pathT t) q) (q.drop (common (pathT t) q)) v))) := by
 obtain ⟨hne, ps, hps, ⟨c0, c1, c2, _, _, _, c6⟩, _⟩ := hT.open
 have hop := okT_path t n ho
 have hcl := common_le (pathT t) q
 have hcm := fun W => ncommon_any (pathT t) q (by omega) (by omega) W
 have hpt := fun W (h : KT W) (hK : KAt W t (some b)) => parted_any t b (common (pathT t) q) (q.drop (common (pathT t) q)) v n (by omega) (by rw [List.length_drop]; omega) (fit_split q _ hf).2 ho (by omega) W h hK
 have hjn := fun W (h : KT W) (b' : Nat) (hK : KAt W (partedT t (common (pathT t) q) (q.drop (common (pathT t) q)) v) (some b')) =>
  joined_any (q.take (common (pathT t) q)) _ b' W h hK (by rw [parted_br t _ _ _ (by omega), List.length_take]; simp; omega)
 have hw2 : (((common (pathT t) q : Nat) : Int) == ((pathT t).length : Int)) = decide (common (pathT t) q = (pathT t).length) := by
  rw [Bool.eq_iff_iff]; simp; omega
 have hq2 : (((common (pathT t) q : Nat) : Int) == (q.length : Int)) = decide (common (pathT t) q = q.length) := by
  rw [Bool.eq_iff_iff]; simp; omega
 have HK := Lib.hid hk
 have HT := Lib.hid hT
 clear hps hne hT hk c2 c6 ho hf
 generalize partedT t (common (pathT t) q) (q.drop (common (pathT t) q)) v = pt at *
 generalize kindT t = kd at *
 generalize pathT t = p at *
 generalize common p q = c at *
 have hst : List.take (q.length - c) (q.drop c) = q.drop c := List.take_of_length_le (by simp)
 have hci : (c : Int) ≤ (q.length : Int) := by omega
 have k3 : (kd == 3) = false := by rw [beq_eq_false_iff_ne]; omega
 have HPT := Lib.hid hpt
 have HJN := Lib.hid hjn
 have HCM := Lib.hid hcm
 have hrest : ∀ (W : World), Below w.heap.size w W → True := fun _ _ => trivial
 clear hpt hjn hcm hrest hop
 rcases hkd with ⟨h1, h2⟩ | ⟨h1, h2⟩
 ·subst h1
  by_cases h3 : c = p.length
  ·have h4 : ¬ c = q.length := fun e => h2 ⟨h3, e⟩
   rw [decide_eq_true h3] at hw2
   rw [decide_eq_false h4] at hq2
   clear h2 h3 h4
   go_enter Tryz.func48, Tryz.ntmps48
   go_wp2_with fail
   refine (HCM.out _).mono ?_
   rintro e w1 ⟨rfl, n1, rfl⟩
   have hb1 : Below w.heap.size w (w.drewN n1) := below_drewN (Below.refl _ _) _
   go_wp2_with fail
   refine wpH_start (by kernel_rfl) (fun hS => ?_)
   (refine hP 0 ?_ ⟨some 113, .move (.tmp 1), 9, "", #[], none⟩ hS ?_ ?_; rotate_left; focus (intro w; go_simp; try with_reducible rfl))
   try simp only [pna, pnb, pnc, pnd, pne]
   (refine hP 1 ?_ ⟨some 114, .move (.tmp 7), 3, "", #[], none⟩ hS ?_ ?_; rotate_left; focus (intro w; go_simp; try with_reducible rfl))
   try simp only [pna, pnb, pnc, pnd, pne]
   (refine hP 2 ?_ ⟨some 115, .slice 9 (.tmp 113) none (some (.tmp 114)) none, 9, "", #[], none⟩ hS ?_ ?_; rotate_left; focus (intro w; go_simp; try with_reducible rfl))
   try simp only [pna, pnb, pnc, pnd, pne]
   (refine hP 3 ?_ ⟨some 116, .move (.tmp 0), 66, "", #[], none⟩ hS ?_ ?_; rotate_left; focus (intro w; go_simp; try with_reducible rfl))
   try simp only [pna, pnb, pnc, pnd, pne]
   (refine hP 4 ?_ ⟨some 117, .move (.tmp 7), 3, "", #[], none⟩ hS ?_ ?_; rotate_left; focus (intro w; go_simp; try with_reducible rfl))
   try simp only [pna, pnb, pnc, pnd, pne]
   (refine hP 5 ?_ ⟨some 118, .move (.tmp 1), 9, "", #[], none⟩ hS ?_ ?_; rotate_left; focus (intro w; go_simp; try with_reducible rfl))
   try simp only [pna, pnb, pnc, pnd, pne]
   (refine hP 6 ?_ ⟨some 119, .move (.tmp 7), 3, "", #[], none⟩ hS ?_ ?_; rotate_left; focus (intro w; go_simp; try with_reducible rfl))
   try simp only [pna, pnb, pnc, pnd, pne]
   (refine hP 7 ?_ ⟨some 120, .slice 9 (.tmp 118) (some (.tmp 119)) none none, 9, "", #[], none⟩ hS ?_ ?_; rotate_left; focus (intro w; go_simp; try with_reducible rfl))
   try simp only [pna, pnb, pnc, pnd, pne]
   (refine hP 8 ?_ ⟨some 121, .move (.tmp 2), 9, "", #[], none⟩ hS ?_ ?_; rotate_left; focus (intro w; go_simp; try with_reducible rfl))
   try simp only [pna, pnb, pnc, pnd, pne]
   refine wpH_call 9 (oi := { dst := some 122, op := Op.call { callee := Callee.value (Operand.func 67), args := #[Operand.tmp 116, Operand.tmp 117, Operand.tmp 120, Operand.tmp 121], argTypes := #[66, 3, 9, 9] }, type := 66, pos := "knot.go:96", after := #[{ on := 3, ground := Ground.data }, { on := 4, ground := Ground.data }, { on := 7, ground := Ground.data }, { on := 8, ground := Ground.data }], guard := none }) rfl (by kernel_rfl) (by rfl) (HPT.out _ (HK.out.keep hb1.drew) (HT.out.keep hb1.drew)) ?_ ?_
   ·(go_simp; try rfl)
   rintro e w' ⟨b3, rfl, hb3, hK3⟩
   refine ⟨_, rfl, hS.trans (hb3.mono hS.size), ?_⟩
   replace hS := hS.trans (hb3.mono hS.size)
   have hb3' := hb1.drew.trans (hb3.mono hb1.drew.size)
   try simp only [pna, pnb, pnc, pnd, pne]
   refine wpH_call 10 (oi := { dst := some 123, op := Op.call { callee := Callee.value (Operand.func 63), args := #[Operand.tmp 115, Operand.tmp 122], argTypes := #[9, 66] }, type := 66, pos := "knot.go:96", after := #[{ on := 2, ground := Ground.data }, { on := 9, ground := Ground.data }, { on := 9, ground := Ground.chain }], guard := none }) rfl (by kernel_rfl) (by rfl) (HJN.out _ (HK.out.keep hb3') b3 hK3) ?_ ?_
   ·(go_simp; try rfl)
   rintro e w' ⟨b4, rfl, hb4, hK4⟩
   refine ⟨_, rfl, hS.trans (hb4.mono hS.size), ?_⟩
   replace hS := hS.trans (hb4.mono hS.size)
   try simp only [pna, pnb, pnc, pnd, pne]
   (refine hP 11 ?_ ⟨some 6, .assign (.tmp 123), 66, "", #[], none⟩ hS ?_ ?_; rotate_left; focus (intro w; go_simp; try with_reducible rfl))
   try simp only [pna, pnb, pnc, pnd, pne]
   refine wpAnyH_done (by kernel_rfl) ?_ _
   go_wp2_with fail
   go_ret
   exact ⟨b4, rfl, hb3'.trans (hb4.mono hb3'.size), hK4⟩
  ·rw [decide_eq_false h3] at hw2
   clear h2 h3 hq2
   go_enter Tryz.func48, Tryz.ntmps48
   go_wp2_with fail
   refine (HCM.out _).mono ?_
   rintro e w1 ⟨rfl, n1, rfl⟩
   have hb1 : Below w.heap.size w (w.drewN n1) := below_drewN (Below.refl _ _) _
   go_wp2_with fail
   refine wpH_start (by kernel_rfl) (fun hS => ?_)
   (refine hP 0 ?_ ⟨some 113, .move (.tmp 1), 9, "", #[], none⟩ hS ?_ ?_; rotate_left; focus (intro w; go_simp; try with_reducible rfl))
   try simp only [pna, pnb, pnc, pnd, pne]
   (refine hP 1 ?_ ⟨some 114, .move (.tmp 7), 3, "", #[], none⟩ hS ?_ ?_; rotate_left; focus (intro w; go_simp; try with_reducible rfl))
   try simp only [pna, pnb, pnc, pnd, pne]
   (refine hP 2 ?_ ⟨some 115, .slice 9 (.tmp 113) none (some (.tmp 114)) none, 9, "", #[], none⟩ hS ?_ ?_; rotate_left; focus (intro w; go_simp; try with_reducible rfl))
   try simp only [pna, pnb, pnc, pnd, pne]
   (refine hP 3 ?_ ⟨some 116, .move (.tmp 0), 66, "", #[], none⟩ hS ?_ ?_; rotate_left; focus (intro w; go_simp; try with_reducible rfl))
   try simp only [pna, pnb, pnc, pnd, pne]
   (refine hP 4 ?_ ⟨some 117, .move (.tmp 7), 3, "", #[], none⟩ hS ?_ ?_; rotate_left; focus (intro w; go_simp; try with_reducible rfl))
   try simp only [pna, pnb, pnc, pnd, pne]
   (refine hP 5 ?_ ⟨some 118, .move (.tmp 1), 9, "", #[], none⟩ hS ?_ ?_; rotate_left; focus (intro w; go_simp; try with_reducible rfl))
   try simp only [pna, pnb, pnc, pnd, pne]
   (refine hP 6 ?_ ⟨some 119, .move (.tmp 7), 3, "", #[], none⟩ hS ?_ ?_; rotate_left; focus (intro w; go_simp; try with_reducible rfl))
   try simp only [pna, pnb, pnc, pnd, pne]
   (refine hP 7 ?_ ⟨some 120, .slice 9 (.tmp 118) (some (.tmp 119)) none none, 9, "", #[], none⟩ hS ?_ ?_; rotate_left; focus (intro w; go_simp; try with_reducible rfl))
   try simp only [pna, pnb, pnc, pnd, pne]
   (refine hP 8 ?_ ⟨some 121, .move (.tmp 2), 9, "", #[], none⟩ hS ?_ ?_; rotate_left; focus (intro w; go_simp; try with_reducible rfl))
   try simp only [pna, pnb, pnc, pnd, pne]
   refine wpH_call 9 (oi := { dst := some 122, op := Op.call { callee := Callee.value (Operand.func 67), args := #[Operand.tmp 116, Operand.tmp 117, Operand.tmp 120, Operand.tmp 121], argTypes := #[66, 3, 9, 9] }, type := 66, pos := "knot.go:96", after := #[{ on := 3, ground := Ground.data }, { on := 4, ground := Ground.data }, { on := 7, ground := Ground.data }, { on := 8, ground := Ground.data }], guard := none }) rfl (by kernel_rfl) (by rfl) (HPT.out _ (HK.out.keep hb1.drew) (HT.out.keep hb1.drew)) ?_ ?_
   ·(go_simp; try rfl)
   rintro e w' ⟨b3, rfl, hb3, hK3⟩
   refine ⟨_, rfl, hS.trans (hb3.mono hS.size), ?_⟩
   replace hS := hS.trans (hb3.mono hS.size)
   have hb3' := hb1.drew.trans (hb3.mono hb1.drew.size)
   try simp only [pna, pnb, pnc, pnd, pne]
   refine wpH_call 10 (oi := { dst := some 123, op := Op.call { callee := Callee.value (Operand.func 63), args := #[Operand.tmp 115, Operand.tmp 122], argTypes := #[9, 66] }, type := 66, pos := "knot.go:96", after := #[{ on := 2, ground := Ground.data }, { on := 9, ground := Ground.data }, { on := 9, ground := Ground.chain }], guard := none }) rfl (by kernel_rfl) (by rfl) (HJN.out _ (HK.out.keep hb3') b3 hK3) ?_ ?_
   ·(go_simp; try rfl)
   rintro e w' ⟨b4, rfl, hb4, hK4⟩
   refine ⟨_, rfl, hS.trans (hb4.mono hS.size), ?_⟩
   replace hS := hS.trans (hb4.mono hS.size)
   try simp only [pna, pnb, pnc, pnd, pne]
   (refine hP 11 ?_ ⟨some 6, .assign (.tmp 123), 66, "", #[], none⟩ hS ?_ ?_; rotate_left; focus (intro w; go_simp; try with_reducible rfl))
   try simp only [pna, pnb, pnc, pnd, pne]
   refine wpAnyH_done (by kernel_rfl) ?_ _
   go_wp2_with fail
   go_ret
   exact ⟨b4, rfl, hb3'.trans (hb4.mono hb3'.size), hK4⟩
 ·subst h1
  rw [decide_eq_false h2] at hw2
  clear h2 hq2
  go_enter Tryz.func48, Tryz.ntmps48
  go_wp2_with fail
  refine (HCM.out _).mono ?_
  rintro e w1 ⟨rfl, n1, rfl⟩
  have hb1 : Below w.heap.size w (w.drewN n1) := below_drewN (Below.refl _ _) _
  go_wp2_with fail
  refine wpH_start (by kernel_rfl) (fun hS => ?_)
  (refine hP 0 ?_ ⟨some 113, .move (.tmp 1), 9, "", #[], none⟩ hS ?_ ?_; rotate_left; focus (intro w; go_simp; try with_reducible rfl))
  try simp only [pna, pnb, pnc, pnd, pne]
  (refine hP 1 ?_ ⟨some 114, .move (.tmp 7), 3, "", #[], none⟩ hS ?_ ?_; rotate_left; focus (intro w; go_simp; try with_reducible rfl))
  try simp only [pna, pnb, pnc, pnd, pne]
  (refine hP 2 ?_ ⟨some 115, .slice 9 (.tmp 113) none (some (.tmp 114)) none, 9, "", #[], none⟩ hS ?_ ?_; rotate_left; focus (intro w; go_simp; try with_reducible rfl))
  try simp only [pna, pnb, pnc, pnd, pne]
  (refine hP 3 ?_ ⟨some 116, .move (.tmp 0), 66, "", #[], none⟩ hS ?_ ?_; rotate_left; focus (intro w; go_simp; try with_reducible rfl))
  try simp only [pna, pnb, pnc, pnd, pne]
  (refine hP 4 ?_ ⟨some 117, .move (.tmp 7), 3, "", #[], none⟩ hS ?_ ?_; rotate_left; focus (intro w; go_simp; try with_reducible rfl))
  try simp only [pna, pnb, pnc, pnd, pne]
  (refine hP 5 ?_ ⟨some 118, .move (.tmp 1), 9, "", #[], none⟩ hS ?_ ?_; rotate_left; focus (intro w; go_simp; try with_reducible rfl))
  try simp only [pna, pnb, pnc, pnd, pne]
  (refine hP 6 ?_ ⟨some 119, .move (.tmp 7), 3, "", #[], none⟩ hS ?_ ?_; rotate_left; focus (intro w; go_simp; try with_reducible rfl))
  try simp only [pna, pnb, pnc, pnd, pne]
  (refine hP 7 ?_ ⟨some 120, .slice 9 (.tmp 118) (some (.tmp 119)) none none, 9, "", #[], none⟩ hS ?_ ?_; rotate_left; focus (intro w; go_simp; try with_reducible rfl))
  try simp only [pna, pnb, pnc, pnd, pne]
  (refine hP 8 ?_ ⟨some 121, .move (.tmp 2), 9, "", #[], none⟩ hS ?_ ?_; rotate_left; focus (intro w; go_simp; try with_reducible rfl))
  try simp only [pna, pnb, pnc, pnd, pne]
  refine wpH_call 9 (oi := { dst := some 122, op := Op.call { callee := Callee.value (Operand.func 67), args := #[Operand.tmp 116, Operand.tmp 117, Operand.tmp 120, Operand.tmp 121], argTypes := #[66, 3, 9, 9] }, type := 66, pos := "knot.go:96", after := #[{ on := 3, ground := Ground.data }, { on := 4, ground := Ground.data }, { on := 7, ground := Ground.data }, { on := 8, ground := Ground.data }], guard := none }) rfl (by kernel_rfl) (by rfl) (HPT.out _ (HK.out.keep hb1.drew) (HT.out.keep hb1.drew)) ?_ ?_
  ·(go_simp; try rfl)
  rintro e w' ⟨b3, rfl, hb3, hK3⟩
  refine ⟨_, rfl, hS.trans (hb3.mono hS.size), ?_⟩
  replace hS := hS.trans (hb3.mono hS.size)
  have hb3' := hb1.drew.trans (hb3.mono hb1.drew.size)
  try simp only [pna, pnb, pnc, pnd, pne]
  refine wpH_call 10 (oi := { dst := some 123, op := Op.call { callee := Callee.value (Operand.func 63), args := #[Operand.tmp 115, Operand.tmp 122], argTypes := #[9, 66] }, type := 66, pos := "knot.go:96", after := #[{ on := 2, ground := Ground.data }, { on := 9, ground := Ground.data }, { on := 9, ground := Ground.chain }], guard := none }) rfl (by kernel_rfl) (by rfl) (HJN.out _ (HK.out.keep hb3') b3 hK3) ?_ ?_
  ·(go_simp; try rfl)
  rintro e w' ⟨b4, rfl, hb4, hK4⟩
  refine ⟨_, rfl, hS.trans (hb4.mono hS.size), ?_⟩
  replace hS := hS.trans (hb4.mono hS.size)
  try simp only [pna, pnb, pnc, pnd, pne]
  (refine hP 11 ?_ ⟨some 6, .assign (.tmp 123), 66, "", #[], none⟩ hS ?_ ?_; rotate_left; focus (intro w; go_simp; try with_reducible rfl))
  try simp only [pna, pnb, pnc, pnd, pne]
  refine wpAnyH_done (by kernel_rfl) ?_ _
  go_wp2_with fail
  go_ret
  exact ⟨b4, rfl, hb3'.trans (hb4.mono hb3'.size), hK4⟩
end Go.Proofs.YtjppbomngnomhaaGreatDoor
