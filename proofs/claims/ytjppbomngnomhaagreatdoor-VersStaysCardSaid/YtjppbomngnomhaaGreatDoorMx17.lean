/- TNodes, SumP, ReachP, Shelf5, Lend. -/
import Derived.Shelf.SlicesE.Clone
import Derived.Deep.Upon
import Derived.Maps.AppendAt
import Derived.Test.YtjppbomngnomhaaGreatDoorMx12
import Derived.Test.YtjppbomngnomhaaGreatDoorMx16
set_option linter.unnecessarySimpa false
set_option linter.unusedSimpArgs false
set_option linter.unusedVariables false
set_option maxRecDepth 100000
set_option maxHeartbeats 32000000
namespace Go.Proofs.YtjppbomngnomhaaGreatDoor
open Go.RowKit Pl
abbrev mayN : Value := .func (.func 30) #[] #[]
structure OutS (w0 : World) (w : World) (l : List Bs) : Prop where
 below : Below w0.heap.size w0 w
 may : w.cell? ⟨w0.heap.size, 0, none⟩ = some mayN
 row : ∃ v, w.cell? ⟨w0.heap.size + 1, 0, none⟩ = some v ∧ SRow w (w0.heap.size + 2) v l
 froz : w.frozen? ⟨w0.heap.size + 1, 0, none⟩ = false
 lt : w0.heap.size + 1 < w.heap.size
theorem OutS.keep {w0 W w : World} {l : List Bs} (h : OutS w0 W l) (hb : Below W.heap.size W w) : OutS w0 w l := by
 obtain ⟨v, h1, h2⟩ := h.row
 exact ⟨h.below.trans (hb.mono (by have := h.lt; omega)), keepC hb h.may, ⟨v, keepC hb h1, h2.keep hb⟩, keepF hb h.lt h.froz, Nat.lt_of_lt_of_le h.lt hb.size⟩
theorem load_ss (w : World) (ad : Addr) (a : Option Addr) (n c : Nat) (h : w.cell? ad = some (.slice a n c)) : (loadVar 39 ad).run Tryz.prog w = .ok (.slice a n c) w := by
 go_simp
theorem run_storeSs (w : World) (b o : Nat) (a : Option Addr) (n c : Nat) (u : Value) (hc : w.cell? ⟨b, o, none⟩ = some u) (hf : w.frozen? ⟨b, o, none⟩ = false) :
  (Instr.storeAt 39 (.pointer (some ⟨b, o, none⟩)) (.slice a n c)).run Tryz.prog w = .ok () (w.setCell ⟨b, o, none⟩ (.slice a n c)) := by
 go_simp
theorem wp_storeSs {o : Oper} {a : Act} {w : World} {K : Act → World → Prop} {Q : Exit → Act → World → Prop} (x y : Operand) (ho : o.op = .store 39 x y) (b i : Nat) (hx : a.eval x = .pointer (some ⟨b, i, none⟩)) (q : Option Addr) (n c : Nat) (hy : a.eval y = .slice q n c)
  (u : Value) (hc : w.cell? ⟨b, i, none⟩ = some u) (hf : w.frozen? ⟨b, i, none⟩ = false) (h : K (a.put o.dst undef) (w.setCell ⟨b, i, none⟩ (.slice q n c))) : o.wp Tryz.prog a w K Q := by
 unfold Oper.wp execOp
 simp only [ho, hx, hy, Sem.run_bind, Sem.run_pure, Result.andThen_ok, run_storeSs w b i q n c u hc hf]
 exact h
theorem ssrc_blk {w : World} {m : Nat} {k : Bs} {t : TypeId} (h : w.heap[m]? = some (.cells #[.string ⟨List.toArray k⟩] t)) : SSrc w m 0 [k] := by
 intro i hi
 have : i = 0 := by simp at hi; omega
 subst this
 simp [World.cell?, h]
def OutQ (w0 w : World) (l : List Bs) (r : Value) (e : Ending) (w' : World) : Prop := e = .returned r ∧ Below w0.heap.size w w' ∧ OutS w0 w' l
theorem may_any (s : Bs) (w : World) : Calls Tryz.prog 30 #[.string ⟨List.toArray s⟩] w fun e w' => e = .returned (.bool true) ∧ w = w' := by
 go_enter Tryz.func30, Tryz.ntmps30
 go_wp2_with fail
 go_ret
 exact ⟨rfl, rfl⟩
theorem visitN_any (w0 : World) (t : Tri) (b : Nat) (hT : KAt w0 t (some b)) (place : Bs) (l : List Bs) (hl : l.length ≤ 1000000) (w : World) (hO : OutS w0 w l) :
  Calls Tryz.prog 49 #[.string ⟨List.toArray place⟩, .pointer (some ⟨b, 0, none⟩), .pointer (some ⟨w0.heap.size, 0, none⟩), .pointer (some ⟨w0.heap.size + 1, 0, none⟩)] w (OutQ w0 w (l ++ [textT t]) (.bool true)) := by
 obtain ⟨hne, ps, hps, ⟨c0, c1, c2, c3, _, _, c6⟩, hB⟩ := hT.open
 have hb0 := hO.below
 have hbl := hB.lt
 replace c3 := keepC hb0 c3
 have hm := hO.may
 clear hps hB c0 c6 hne hT c1 c2
 generalize textT t = tx at *
 have HQ := Lib.hid (may_any place)
 obtain ⟨v, e1, r1⟩ := hO.row
 obtain ⟨va, vc, rfl⟩ := r1.form
 have f1 := hO.froz
 have HO1 := Lib.hid hO
 clear hO
 have hcell0 : w.drew.cell? ⟨w0.heap.size + 1, 0, none⟩ = some (.slice va l.length vc) := e1
 have hrow0 : SRow w.drew (w0.heap.size + 2) (.slice va l.length vc) l := r1.keep (Below.refl _ _).drew
 have hfz0 : w.drew.frozen? ⟨w0.heap.size + 1, 0, none⟩ = false := f1
 have hmay0 : w.drew.cell? ⟨w0.heap.size, 0, none⟩ = some mayN := hm
 have HC0 := Lib.hid hcell0
 have HR0 := Lib.hid hrow0
 have HF0 := Lib.hid hfz0
 have HM0 := Lib.hid hmay0
 have HD2 := Lib.hid c3
 clear e1 r1 f1 hcell0 hrow0 hfz0 hmay0 c3
 go_enter Tryz.func49, Tryz.ntmps49
 go_wp2_with fail
 refine (HQ.out _).mono ?_
 rintro e w1 ⟨rfl, rfl⟩
 go_wp2_with fail
 refine wpH_startB (w0.heap.size + 1) (by kernel_rfl) (fun hS => ?_)
 have hcell := HC0
 have hrow := HR0
 have hfz := HF0
 have hlo : w0.heap.size + 1 < w.drew.heap.size := HO1.out.lt
 (refine hP 1 ?_ ⟨some 12, .move (.tmp 1), 66, "", #[], none⟩ hS ?_ ?_; rotate_left; focus (intro w; go_simp; try with_reducible rfl))
 try simp only [pna, pnb, pnc, pnd, pne]
 (refine hP 2 ?_ ⟨some 13, .nilCheck (.tmp 12), 0, "", #[], none⟩ hS ?_ ?_; rotate_left; focus (intro w; go_simp; try with_reducible rfl))
 try simp only [pna, pnb, pnc, pnd, pne]
 (refine hP 3 ?_ ⟨some 14, .fieldAddr 79 (.tmp 13) 2, 0, "", #[], none⟩ hS ?_ ?_; rotate_left; focus (intro w; go_simp; try with_reducible rfl))
 try simp only [pna, pnb, pnc, pnd, pne]
 refine wpH_load 4 (.string ⟨List.toArray tx⟩) (oi := { dst := some 15, op := Op.load 9 (Operand.tmp 14), type := 9, pos := "trie.go:101", after := #[{ on := 3, ground := Ground.data }], guard := none }) rfl (by kernel_rfl) (by kernel_rfl) (by kernel_rfl) (by rfl) hS (fun _ _ _ h => h) (fun w hb => (by have c := (hb.cell (p := ⟨b, 35, none⟩) (by show b < w0.heap.size + 1; omega)).trans HD2.out; go_simp; try rfl)) ?_
 try simp only [pna, pnb, pnc, pnd, pne]
 refine wpAnyH_all (rs := [0, 5]) (by kernel_rfl) (by simp) (fun jj hjj => ?_)
 simp only [List.mem_cons, List.not_mem_nil, or_false] at hjj
 rcases hjj with rfl | rfl
 refine wpO_op (oi := { dst := some 11, op := Op.load 39 (Operand.tmp 3), type := 39, pos := "trie.go:101", after := #[], guard := none }) rfl (by rfl) ?_
 refine wp_load1 39 (.tmp 3) rfl ⟨w0.heap.size + 1, 0, none⟩ rfl (.slice va l.length vc) (load_ss _ _ _ _ _ hcell.out) ?_
 refine ⟨hS, ?_⟩
 try simp only [pna, pnb, pnc, pnd, pne]
 refine wpH_op 5 (oi := { dst := some 16, op := Op.buildSlice 39 1 #[(0, Operand.tmp 15)], type := 39, pos := "trie.go:101", after := #[{ on := 4, ground := Ground.data }], guard := none }) rfl (by kernel_rfl) (by rfl) ?_
 refine wp_newK 9 #[.string ⟨List.toArray tx⟩] (fun m => .slice (some ⟨m, 0, none⟩) 1 1) (fun w => by go_simp; try rfl) ?_
 intro m wk hm hh hmk hbk
 replace hS := hS.trans (hbk.mono (Nat.le_of_lt hlo))
 refine ⟨hS, ?_⟩
 replace hcell := Lib.hid (keepC hbk hcell.out)
 replace hrow := Lib.hid (hrow.out.keep hbk)
 replace hfz := Lib.hid (keepF hbk hlo hfz.out)
 replace hlo := Nat.lt_of_lt_of_le hlo hbk.size
 replace hh := Lib.hid hh
 try simp only [pna, pnb, pnc, pnd, pne]
 refine wpH_op 6 (oi := { dst := some 17, op := Op.call { callee := Callee.builtin Builtin.append, args := #[Operand.tmp 11, Operand.tmp 16], argTypes := #[39, 39] }, type := 39, pos := "trie.go:101", after := #[{ on := 0, ground := Ground.data }, { on := 5, ground := Ground.data }], guard := none }) rfl (by kernel_rfl) (by rfl) ?_
 refine wp_appS (.tmp 11) (.tmp 16) rfl (w0.heap.size + 2) _ l rfl hrow.out m 0 1 1 [tx] rfl rfl (ssrc_blk hh.out) (by omega) hlo ?_
 intro v2 wa hrow2 hba
 replace hS := hS.trans (hba.mono (Nat.le_succ _))
 refine ⟨hS, ?_⟩
 replace hcell := Lib.hid ((hba.cell (p := ⟨w0.heap.size + 1, 0, none⟩) (Nat.lt_succ_self _)).trans hcell.out)
 replace hfz := Lib.hid ((hba.frozen (p := ⟨w0.heap.size + 1, 0, none⟩) (Nat.lt_succ_self _)).trans hfz.out)
 replace hlo := Nat.lt_of_lt_of_le hlo hba.size
 obtain ⟨v2a, v2c, rfl⟩ := hrow2.form
 replace hrow2 := Lib.hid hrow2
 try simp only [pna, pnb, pnc, pnd, pne]
 refine wpH_op 7 (oi := { dst := none, op := Op.store 39 (Operand.tmp 3) (Operand.tmp 17), type := 0, pos := "trie.go:101", after := #[{ on := 6, ground := Ground.data }, { on := 6, ground := Ground.chain }, { on := 0, ground := Ground.phase }, { on := 1, ground := Ground.phase }, { on := 2, ground := Ground.phase }, { on := 3, ground := Ground.phase }, { on := 4, ground := Ground.phase }, { on := 5, ground := Ground.phase }, { on := 6, ground := Ground.phase }], guard := none }) rfl (by kernel_rfl) (by rfl) ?_
 refine wp_storeSs (.tmp 3) (.tmp 17) rfl (w0.heap.size + 1) 0 rfl v2a _ v2c rfl _ hcell.out hfz.out ?_
 refine ⟨hS.setCell (p := ⟨w0.heap.size + 1, 0, none⟩) (Nat.le_refl _) _, ?_⟩
 replace hS := hS.setCell (p := ⟨w0.heap.size + 1, 0, none⟩) (Nat.le_refl _) (.slice v2a (l ++ [tx]).length v2c)
 have hrow3 := Lib.hid (hrow2.out.kept (w' := World.setCell _ ⟨w0.heap.size + 1, 0, none⟩ (.slice v2a (l ++ [tx]).length v2c)) (fun k hk => (Below.heap_setCell _ _ _ _ (by have := hrow2.out.own k hk; simp; omega))))
 have hm9 := (hS.cell (p := ⟨w0.heap.size, 0, none⟩) (Nat.lt_succ_self _)).trans HM0.out
 try simp only [pna, pnb, pnc, pnd, pne]
 refine wpAnyH_done (by kernel_rfl) ?_ _
 go_wp2_with fail
 go_ret
 have hS' := hS.mono (Nat.le_succ w0.heap.size)
 exact ⟨rfl, hS', ⟨HO1.out.below.trans hS', hm9, ⟨_, World.cell?_setCell_same _ _ _ hcell.out, hrow3.out⟩, (World.frozen?_setCell _ _ _ _).trans hfz.out, by simpa [World.setCell] using hlo⟩⟩
 refine wpO_op (oi := { dst := some 16, op := Op.buildSlice 39 1 #[(0, Operand.tmp 15)], type := 39, pos := "trie.go:101", after := #[{ on := 4, ground := Ground.data }], guard := none }) rfl (by rfl) ?_
 refine wp_newK 9 #[.string ⟨List.toArray tx⟩] (fun m => .slice (some ⟨m, 0, none⟩) 1 1) (fun w => by go_simp; try rfl) ?_
 intro m wk hm hh hmk hbk
 replace hS := hS.trans (hbk.mono (Nat.le_of_lt hlo))
 refine ⟨hS, ?_⟩
 replace hcell := Lib.hid (keepC hbk hcell.out)
 replace hrow := Lib.hid (hrow.out.keep hbk)
 replace hfz := Lib.hid (keepF hbk hlo hfz.out)
 replace hlo := Nat.lt_of_lt_of_le hlo hbk.size
 replace hh := Lib.hid hh
 try simp only [pna, pnb, pnc, pnd, pne]
 refine wpH_op 0 (oi := { dst := some 11, op := Op.load 39 (Operand.tmp 3), type := 39, pos := "trie.go:101", after := #[], guard := none }) rfl (by kernel_rfl) (by rfl) ?_
 refine wp_load1 39 (.tmp 3) rfl ⟨w0.heap.size + 1, 0, none⟩ rfl (.slice va l.length vc) (load_ss _ _ _ _ _ hcell.out) ?_
 refine ⟨hS, ?_⟩
 try simp only [pna, pnb, pnc, pnd, pne]
 refine wpH_op 6 (oi := { dst := some 17, op := Op.call { callee := Callee.builtin Builtin.append, args := #[Operand.tmp 11, Operand.tmp 16], argTypes := #[39, 39] }, type := 39, pos := "trie.go:101", after := #[{ on := 0, ground := Ground.data }, { on := 5, ground := Ground.data }], guard := none }) rfl (by kernel_rfl) (by rfl) ?_
 refine wp_appS (.tmp 11) (.tmp 16) rfl (w0.heap.size + 2) _ l rfl hrow.out m 0 1 1 [tx] rfl rfl (ssrc_blk hh.out) (by omega) hlo ?_
 intro v2 wa hrow2 hba
 replace hS := hS.trans (hba.mono (Nat.le_succ _))
 refine ⟨hS, ?_⟩
 replace hcell := Lib.hid ((hba.cell (p := ⟨w0.heap.size + 1, 0, none⟩) (Nat.lt_succ_self _)).trans hcell.out)
 replace hfz := Lib.hid ((hba.frozen (p := ⟨w0.heap.size + 1, 0, none⟩) (Nat.lt_succ_self _)).trans hfz.out)
 replace hlo := Nat.lt_of_lt_of_le hlo hba.size
 obtain ⟨v2a, v2c, rfl⟩ := hrow2.form
 replace hrow2 := Lib.hid hrow2
 try simp only [pna, pnb, pnc, pnd, pne]
 refine wpH_op 7 (oi := { dst := none, op := Op.store 39 (Operand.tmp 3) (Operand.tmp 17), type := 0, pos := "trie.go:101", after := #[{ on := 6, ground := Ground.data }, { on := 6, ground := Ground.chain }, { on := 0, ground := Ground.phase }, { on := 1, ground := Ground.phase }, { on := 2, ground := Ground.phase }, { on := 3, ground := Ground.phase }, { on := 4, ground := Ground.phase }, { on := 5, ground := Ground.phase }, { on := 6, ground := Ground.phase }], guard := none }) rfl (by kernel_rfl) (by rfl) ?_
 refine wp_storeSs (.tmp 3) (.tmp 17) rfl (w0.heap.size + 1) 0 rfl v2a _ v2c rfl _ hcell.out hfz.out ?_
 refine ⟨hS.setCell (p := ⟨w0.heap.size + 1, 0, none⟩) (Nat.le_refl _) _, ?_⟩
 replace hS := hS.setCell (p := ⟨w0.heap.size + 1, 0, none⟩) (Nat.le_refl _) (.slice v2a (l ++ [tx]).length v2c)
 have hrow3 := Lib.hid (hrow2.out.kept (w' := World.setCell _ ⟨w0.heap.size + 1, 0, none⟩ (.slice v2a (l ++ [tx]).length v2c)) (fun k hk => (Below.heap_setCell _ _ _ _ (by have := hrow2.out.own k hk; simp; omega))))
 have hm9 := (hS.cell (p := ⟨w0.heap.size, 0, none⟩) (Nat.lt_succ_self _)).trans HM0.out
 try simp only [pna, pnb, pnc, pnd, pne]
 refine wpAnyH_done (by kernel_rfl) ?_ _
 go_wp2_with fail
 go_ret
 have hS' := hS.mono (Nat.le_succ w0.heap.size)
 exact ⟨rfl, hS', ⟨HO1.out.below.trans hS', hm9, ⟨_, World.cell?_setCell_same _ _ _ hcell.out, hrow3.out⟩, (World.frozen?_setCell _ _ _ _).trans hfz.out, by simpa [World.setCell] using hlo⟩⟩
def kidN (f : Nat → Tri) (k : Nat) : List Bs := (List.range k).flatMap fun i => nodesT (f i)
theorem kidN_succ (f : Nat → Tri) (k : Nat) : kidN f (k + 1) = kidN f k ++ nodesT (f k) := by
 simp [kidN, List.range_succ]
theorem kidN_no : ∀ k, kidN noT k = []
 | 0 => rfl
 | k + 1 => by rw [kidN_succ, kidN_no k]; rfl
theorem kidN_le (f : Nat → Tri) (k n : Nat) (h : k ≤ n) : (kidN f k).length ≤ (kidN f n).length := by
 induction n with
 | zero =>
  have : k = 0 := by omega
  subst this; exact Nat.le_refl _
 | succ n ih =>
  rcases Nat.lt_or_ge k (n + 1) with h1 | h1
  ·have := ih (by omega)
   rw [kidN_succ, List.length_append]; omega
  ·have : k = n + 1 := by omega
   subst this; exact Nat.le_refl _
theorem nodes_on (t : Tri) (h : t ≠ .nil) (hk : kindT t ≠ 2) : nodesT t = [textT t] ++ kidN (kidsOf t) 16 := by
 cases t with
 | nil => exact absurd rfl h
 | ext p t => simp [kindT] at hk
 | leaf p v => rw [show kidsOf (.leaf p v) = noT from rfl, kidN_no]; rfl
 | br v kids => rfl
theorem nodes_len : ∀ (t : Tri) (n : Nat), okT t n → canT t → (nodesT t).length ≤ (n + 1) * (rp t).length ∧ (t ≠ .nil → 1 ≤ (rp t).length)
 | .nil, n, _, _ => by simp [nodesT]
 | .leaf p v, n, _, hc => by
  simp only [nodesT, rp, hc.1, if_false, List.length_singleton]
  omega
 | .ext p t, n, hk, hc => by
  have ih := nodes_len t _ hk.2.2.2 hc.2
  have h1 := ih.2 hk.2.2.1.1
  have h2 : 1 ≤ p.length := by
   rcases Nat.eq_zero_or_pos p.length with h | h
   ·exact absurd (List.length_eq_zero_iff.1 h) hk.2.2.1.2
   ·exact h
  have h3 := hk.2.1
  simp only [nodesT, rp, List.length_cons, List.length_map]
  refine ⟨?_, fun _ => h1⟩
  have h4 : (n - p.length + 1) * (rp t).length + 1 * (rp t).length ≤ (n + 1) * (rp t).length := by
   rw [← Nat.add_mul]
   exact Nat.mul_le_mul_right _ (by omega)
  omega
 | .br v kids, n, hk, hc => by
  have ih : ∀ i, (nodesT (kids i)).length ≤ n * (rp (kids i)).length ∧ (kids i ≠ .nil → 1 ≤ (rp (kids i)).length) := fun i => by
   rcases hk i with h | ⟨_, h2, h3⟩
   ·rw [h]; simp [nodesT]
   ·have := nodes_len (kids i) (n - 1) h3 (hc.2.2 i)
    rw [show n - 1 + 1 = n from by omega] at this
    exact this
  have hs : ∀ k, (kidN kids k).length ≤ n * cntT kids k := by
   intro k
   induction k with
   | zero => simp [kidN, cntT]
   | succ k ihk =>
    rw [kidN_succ, List.length_append, cntT, Nat.mul_add]
    have := (ih k).1
    omega
  have hl : ∀ k, liveK kids k ≤ cntT kids k := by
   intro k
   induction k with
   | zero => simp [liveK, cntT]
   | succ k ihk =>
    simp only [liveK, cntT]
    split
    ·omega
    ·rename_i h
     have := (ih k).2 (fun e => h ((isN_iff _).2 e))
     omega
  have h1 := hs 16
  have h2 := hl 16
  have h3 := hc.2.1
  have hr := rp_len (.br v kids) (by simp)
  simp only [kidsOf, valT] at hr
  have h5 : hasV v = ownN v := rfl
  rw [hr]
  have h6 : (nodesT (.br v kids)).length = (kidN kids 16).length + 1 := rfl
  rw [h6]
  refine ⟨?_, fun _ => by omega⟩
  have h7 : (n + 1) * (cntT kids 16 + ownN v) = n * cntT kids 16 + n * ownN v + (cntT kids 16 + ownN v) := by rw [Nat.add_mul, Nat.mul_add, Nat.one_mul]
  rw [h7]
  omega
abbrev visN (w0 : World) : Value := .func (.func 49) #[] #[.pointer (some ⟨w0.heap.size, 0, none⟩), .pointer (some ⟨w0.heap.size + 1, 0, none⟩)]
theorem walkN_nil (w0 w : World) (place : Bs) (l : List Bs) (hO : OutS w0 w l) :
  Calls Tryz.prog 32 #[.pointer none, .string ⟨List.toArray place⟩, visN w0] w (OutQ w0 w (l ++ nodesT .nil) (.tuple #[])) := by
 rw [show nodesT .nil = [] from rfl, List.append_nil]
 have HO := Lib.hid hO
 clear hO
 go_enter Tryz.func32, Tryz.ntmps32
 go_wp2_with fail
 refine bodyPost_end (results_none rfl _ _ _) rfl ?_
 exact ⟨rfl, Below.refl _ _, HO.out⟩
theorem walkN_ext (w0 : World) (p0 : Bs) (t1 : Tri) (b : Nat) (hT : KAt w0 (.ext p0 t1) (some b)) (place : Bs) (l : List Bs) (hp : place.length + p0.length ≤ 100000) (hl : l.length ≤ 1000000) (w : World) (hO : OutS w0 w l)
  (ih : ∀ (p : Option Nat) (w : World), KAt w0 t1 p → OutS w0 w (l ++ [textT (.ext p0 t1)]) → Calls Tryz.prog 32 #[ptV p, .string ⟨List.toArray (place ++ p0)⟩, visN w0] w (OutQ w0 w ((l ++ [textT (.ext p0 t1)]) ++ nodesT t1) (.tuple #[]))) :
  Calls Tryz.prog 32 #[.pointer (some ⟨b, 0, none⟩), .string ⟨List.toArray place⟩, visN w0] w (OutQ w0 w (l ++ nodesT (.ext p0 t1)) (.tuple #[])) := by
 rw [show nodesT (.ext p0 t1) = [textT (.ext p0 t1)] ++ nodesT t1 from rfl, ← List.append_assoc]
 obtain ⟨hne, ps, hps, ⟨c0, c1, c2, _, _, _, c6⟩, hB⟩ := hT.open
 have hbl := hB.lt
 simp only [kindT, pathT, valT] at c0 c1 c2
 have hk0 := hps 0 (by omega)
 rw [show kidsOf (.ext p0 t1) 0 = t1 from by simp [kidsOf, updT]] at hk0
 have HV := Lib.hid (visitN_any w0 _ b hT place l hl w hO)
 have HIH := Lib.hid (ih (ps 0))
 have HK0 := Lib.hid hk0
 have hnl : ¬ 9223372036854775807 < List.length place + List.length p0 := by omega
 clear hps hB c2 hne hT ih hO hk0
 generalize l ++ [textT (.ext p0 t1)] = l2 at *
 go_enter Tryz.func32, Tryz.ntmps32
 go_wp2_with fail
 refine HV.out.mono ?_
 rintro e w1 ⟨rfl, hb1, hO1⟩
 have hw1 := hO1.below
 have d0 := keepC hw1 c0
 have d1 := keepC hw1 c1
 have d6 := keepC hw1 c6
 have HO1 := Lib.hid hO1
 clear c0 c1 c6 hO1
 go_wp2_with fail
 refine wpH_startB (w0.heap.size) (by kernel_rfl) (fun hS => ?_)
 (refine hP 0 ?_ ⟨some 23, .move (.tmp 0), 66, "", #[], none⟩ hS ?_ ?_; rotate_left; focus (intro w; go_simp; try with_reducible rfl))
 try simp only [pna, pnb, pnc, pnd, pne]
 (refine hP 1 ?_ ⟨some 24, .nilCheck (.tmp 23), 0, "", #[], none⟩ hS ?_ ?_; rotate_left; focus (intro w; go_simp; try with_reducible rfl))
 try simp only [pna, pnb, pnc, pnd, pne]
 (refine hP 2 ?_ ⟨some 25, .fieldAddr 79 (.tmp 24) 1, 0, "", #[], none⟩ hS ?_ ?_; rotate_left; focus (intro w; go_simp; try with_reducible rfl))
 try simp only [pna, pnb, pnc, pnd, pne]
 (refine hP 3 ?_ ⟨some 26, .indexAddr 77 (.tmp 25) (.const (.int .i64 0)), 0, "", #[], none⟩ hS ?_ ?_; rotate_left; focus (intro w; go_simp; try with_reducible rfl))
 try simp only [pna, pnb, pnc, pnd, pne]
 refine wpH_load 4 (ptV (ps 0)) (oi := { dst := some 27, op := Op.load 66 (Operand.tmp 26), type := 66, pos := "knot.go:155", after := #[{ on := 3, ground := Ground.data }], guard := none }) rfl (by kernel_rfl) (by kernel_rfl) (by kernel_rfl) (by rfl) hS (fun _ _ _ h => h) (fun w hb => (by have c := (hb.cell (p := ⟨b, 19, none⟩) hbl).trans d6; go_simp; try rfl)) ?_
 try simp only [pna, pnb, pnc, pnd, pne]
 (refine hP 5 ?_ ⟨some 28, .move (.tmp 1), 9, "", #[], none⟩ hS ?_ ?_; rotate_left; focus (intro w; go_simp; try with_reducible rfl))
 try simp only [pna, pnb, pnc, pnd, pne]
 (refine hP 6 ?_ ⟨some 29, .move (.tmp 0), 66, "", #[], none⟩ hS ?_ ?_; rotate_left; focus (intro w; go_simp; try with_reducible rfl))
 try simp only [pna, pnb, pnc, pnd, pne]
 (refine hP 7 ?_ ⟨some 30, .nilCheck (.tmp 29), 0, "", #[], none⟩ hS ?_ ?_; rotate_left; focus (intro w; go_simp; try with_reducible rfl))
 try simp only [pna, pnb, pnc, pnd, pne]
 (refine hP 8 ?_ ⟨some 31, .fieldAddr 79 (.tmp 30) 0, 0, "", #[], none⟩ hS ?_ ?_; rotate_left; focus (intro w; go_simp; try with_reducible rfl))
 try simp only [pna, pnb, pnc, pnd, pne]
 (refine hP 9 ?_ ⟨some 32, .fieldAddr 76 (.tmp 31) 1, 0, "", #[], none⟩ hS ?_ ?_; rotate_left; focus (intro w; go_simp; try with_reducible rfl))
 try simp only [pna, pnb, pnc, pnd, pne]
 refine wpH_load 10 (.string ⟨List.toArray p0⟩) (oi := { dst := some 33, op := Op.load 9 (Operand.tmp 32), type := 9, pos := "knot.go:155", after := #[{ on := 9, ground := Ground.data }], guard := none }) rfl (by kernel_rfl) (by kernel_rfl) (by kernel_rfl) (by rfl) hS (fun _ _ _ h => h) (fun w hb => (by have c := (hb.cell (p := ⟨b, 1, none⟩) hbl).trans d1; go_simp; try rfl)) ?_
 try simp only [pna, pnb, pnc, pnd, pne]
 (refine hP 11 ?_ ⟨some 34, .binOp .add 9 (.tmp 28) (.tmp 33) 9, 9, "", #[], none⟩ hS ?_ ?_; rotate_left; focus (intro w; go_simp; try with_reducible rfl))
 try simp only [pna, pnb, pnc, pnd, pne]
 (refine hP 12 ?_ ⟨some 35, .move (.tmp 2), 82, "", #[], none⟩ hS ?_ ?_; rotate_left; focus (intro w; go_simp; try with_reducible rfl))
 try simp only [pna, pnb, pnc, pnd, pne]
 refine wpH_call 13 (oi := { dst := some 36, op := Op.call { callee := Callee.value (Operand.func 32), args := #[Operand.tmp 27, Operand.tmp 34, Operand.tmp 35], argTypes := #[66, 9, 82] }, type := 0, pos := "knot.go:155", after := #[{ on := 4, ground := Ground.data }, { on := 11, ground := Ground.data }, { on := 12, ground := Ground.data }], guard := none }) rfl (by kernel_rfl) (by rfl) (HIH.out _ HK0.out (HO1.out.keep (Below.refl _ _).drew)) ?_ ?_
 ·(go_simp; try rfl)
 rintro e w' ⟨rfl, hbx, hO2⟩
 refine ⟨_, rfl, hS.trans hbx, ?_⟩
 replace hS := hS.trans hbx
 try simp only [pna, pnb, pnc, pnd, pne]
 refine wpAnyH_done (by kernel_rfl) ?_ _
 go_wp2_with fail
 refine bodyPost_end (results_none rfl _ _ _) rfl ?_
 exact ⟨rfl, hb1.trans hS, hO2⟩
theorem walkN_on (w0 : World) (t : Tri) (b : Nat) (ps : Ps) (hT : KAt w0 t (some b)) (hk2 : kindT t ≠ 2) (place : Bs) (l : List Bs) (hp : place.length + (pathT t).length ≤ 100000) (hl : l.length + (nodesT t).length ≤ 1000000) (w : World) (hO : OutS w0 w l)
  (hB : Blk w0 b (kn (kindT t) (pathT t) (valT t) (kidF fun i => sumT (kidsOf t i)) ps (textT t) (sumT t) (w64 (rp t).length)).toArray)
  (ih : ∀ (i : Nat) (m : List Bs) (w : World), i < 16 → m.length + (nodesT (kidsOf t i)).length ≤ 1000000 → OutS w0 w m → Calls Tryz.prog 32 #[ptV (ps i), .string ⟨List.toArray (place ++ [UInt8.ofNat i])⟩, visN w0] w (OutQ w0 w (m ++ nodesT (kidsOf t i)) (.tuple #[]))) :
  Calls Tryz.prog 32 #[.pointer (some ⟨b, 0, none⟩), .string ⟨List.toArray place⟩, visN w0] w (OutQ w0 w (l ++ nodesT t) (.tuple #[])) := by
 have hne := hT.some'.1
 have hno := nodes_on t hne hk2
 rw [hno, ← List.append_assoc]
 have HV := Lib.hid (visitN_any w0 t b hT place l (by omega) w hO)
 have hl1 : (l ++ [textT t]).length + (kidN (kidsOf t) 16).length ≤ 1000000 := by rw [hno] at hl; simp at hl ⊢; omega
 have hbl := hB.lt
 have c0 := hB.kn.kind
 have k2 : (kindT t == 2) = false := by simpa using hk2
 have HB := Lib.hid hB
 have HIH := Lib.hid ih
 clear hne hno hT hk2 hB ih hl hO
 generalize l ++ [textT t] = l1 at *
 generalize kindT t = kd at *
 generalize kidsOf t = f at *
 go_enter Tryz.func32, Tryz.ntmps32
 go_wp2_with fail
 refine HV.out.mono ?_
 rintro e w1 ⟨rfl, hb1, hO1⟩
 have hw1 := hO1.below
 have d0 := keepC hw1 c0
 have hB1 := HB.out.keep hw1
 have HO1 := Lib.hid hO1
 clear c0 hO1 HB hw1
 go_wp2_with (first
  | (refine wpList_knPtrs rfl (.tmp 39) rfl rfl hB1 ?_)
  | fail)
 clear hB1 d0
 go_loopw [41] (fun s41 wr => ∃ i : Nat, i ≤ 16 ∧ s41 = .int .i64 i ∧ Hid (OutS w0 wr (l1 ++ kidN f i)) ∧ Below w0.heap.size w wr) (fun s41 _ => 16 - (intOf s41).toNat)
 case atStart => exact ⟨0, by omega, rfl, Lib.hid (by rw [show kidN f 0 = [] from rfl, List.append_nil]; exact HO1.out), hb1⟩
 case round =>
  obtain ⟨i, hi, rfl, HO, hb⟩ := hrel
  by_cases hlt : i < 16
  ·have d1 : (i : Int) < 16 := by omega
   have hki := pk_index ps i hlt
   have hw8 : IntKind.u8.wrap (i : Int) = (i : Int) := by rw [IntKind.wrap_u8]; omega
   have hcl := kidN_le f (i + 1) 16 (by omega)
   rw [kidN_succ, List.length_append] at hcl
   have hnl : ¬ 9223372036854775807 < List.length place + 1 := by omega
   have hbA : Below wr.heap.size wr (wr.alloc (.cells #[.int .u8 (i : Int)] 5)) := Below.allocS (Below.refl _ _) _
   have HK := Lib.hid (HIH.out i (l1 ++ kidN f i) _ hlt (by rw [List.length_append]; omega) (HO.out.keep hbA))
   have hwr : w0.heap.size ≤ wr.heap.size := (by have := HO.out.lt; omega)
   rw [List.append_assoc, ← kidN_succ] at HK
   clear hcl hlt
   go_wp2_with fail
   refine HK.out.mono ?_
   rintro e w2 ⟨rfl, hb2, hO2⟩
   clear hki
   go_wp2_with fail
   exact ⟨⟨i + 1, by omega, by go_num, Lib.hid hO2, (hb.trans (hbA.mono hwr)).trans hb2⟩, by simp [intOf]; omega⟩
  ·have e : i = 16 := by omega
   subst e
   go_wp2_with fail
   refine bodyPost_end (results_none rfl _ _ _) rfl ?_
   exact ⟨rfl, hb, HO.out⟩
theorem walkN_any (w0 : World) : ∀ (t : Tri) (n : Nat), okT t n → n ≤ 400 → ∀ (p : Option Nat) (place : Bs) (l : List Bs) (w : World), KAt w0 t p → place.length + n ≤ 1000 → l.length + (nodesT t).length ≤ 1000000 → OutS w0 w l →
  Calls Tryz.prog 32 #[ptV p, .string ⟨List.toArray place⟩, visN w0] w (OutQ w0 w (l ++ nodesT t) (.tuple #[])) := by
 intro t
 induction t with
 | nil =>
  intro n ho hn p place l w hT hp hl hO
  obtain rfl := hT.isNil
  exact walkN_nil w0 w place l hO
 | leaf p0 v0 =>
  intro n ho hn p place l w hT hp hl hO
  obtain ⟨b, rfl⟩ := hT.isKnot (by simp)
  obtain ⟨hne, ps, hps, _, hB⟩ := hT.open
  have hop := ho.2
  refine walkN_on w0 (.leaf p0 v0) b ps hT (by simp [kindT]) place l (by simp only [pathT]; omega) hl w hO hB ?_
  intro i m W hi hm hW
  have hki := hps i hi
  rw [show kidsOf (.leaf p0 v0) i = .nil from rfl] at hki ⊢
  rw [hki.isNil]
  exact walkN_nil w0 W _ m hW
 | ext p0 t1 ih =>
  intro n ho hn p place l w hT hp hl hO
  obtain ⟨b, rfl⟩ := hT.isKnot (by simp)
  have hop := ho.2.1
  have hrl : (nodesT (.ext p0 t1)).length = (nodesT t1).length + 1 := by simp [nodesT]
  refine walkN_ext w0 p0 t1 b hT place l (by omega) (by omega) w hO ?_
  intro p' W hT' hW
  exact ih (n - p0.length) ho.2.2.2 (by omega) p' (place ++ p0) _ W hT' (by rw [List.length_append]; omega) (by simp; omega) hW
 | br v0 kids ih =>
  intro n ho hn p place l w hT hp hl hO
  obtain ⟨b, rfl⟩ := hT.isKnot (by simp)
  obtain ⟨hne, ps, hps, _, hB⟩ := hT.open
  refine walkN_on w0 (.br v0 kids) b ps hT (by simp [kindT]) place l (by simp [pathT]; omega) hl w hO hB ?_
  intro i m W hi hm hW
  have hki := hps i hi
  rw [show kidsOf (.br v0 kids) i = kids i from rfl] at hki hm ⊢
  rcases ho i with h2 | ⟨_, h1, h3⟩
  ·rw [h2] at hki ⊢
   rw [hki.isNil]
   exact walkN_nil w0 W _ m hW
  ·exact ih i (n - 1) h3 (by omega) (ps i) _ m W hki (by rw [List.length_append]; simp; omega) hm hW
def SRowP (B : Nat) (w : World) (l : List Bs) (e : Ending) (w' : World) : Prop := ∃ v, e = .returned v ∧ SRow w' B v l ∧ Below B w w'
theorem ttold_any (pt : Nat) (t : Tri) (ho : okT t 16) (hl : (nodesT t).length ≤ 1000000) (w : World) (hT : TAt w pt t) :
  Calls Tryz.prog 29 #[.pointer (some ⟨pt, 0, none⟩), mayN] w (SRowP w.heap.size w (nodesT t)) := by
 obtain ⟨kp, hB, hK⟩ := hT
 have hb0 : Below w.heap.size w ((w.alloc (.cells #[mayN] 72)).alloc (.cells #[.slice none 0 0] 39)) := Below.allocS (Below.allocS (Below.refl _ _) _) _
 have hO : OutS w ((w.alloc (.cells #[mayN] 72)).alloc (.cells #[.slice none 0 0] 39)) [] :=
  ⟨hb0, by simp, ⟨.slice none 0 0, by simp, SRow.nil _ _⟩, by simp, by simp⟩
 have HW := Lib.hid (walkN_any w t 16 ho (by omega) kp [] [] _ hK (by simp) (by simpa using hl) hO)
 rw [List.nil_append] at HW
 have c0 : ((w.alloc (.cells #[mayN] 72)).alloc (.cells #[.slice none 0 0] 39)).cell? ⟨pt, 0, none⟩ = some (ptV kp) := keepC hb0 (hB.cell 0)
 have hsz := hO.lt
 clear hB hK hO hb0 ho hl
 generalize nodesT t = L at *
 go_enter Tryz.func29, Tryz.ntmps29
 go_wp2_with fail
 refine HW.out.mono ?_
 rintro e w1 ⟨rfl, hb1, hO1⟩
 obtain ⟨v, e1, r1⟩ := hO1.row
 obtain ⟨va, vc, rfl⟩ := r1.form
 have hb2 := hO1.below
 have hr2 : SRow w1 w.heap.size (.slice va L.length vc) L := r1.low (by omega)
 have HR2 := Lib.hid hr2
 clear hO1 r1 hr2 c0 hsz
 go_wp2_with fail
 go_ret
 exact ⟨_, rfl, HR2.out, hb2⟩
theorem nodes_any (pt : Nat) (t : Tri) (ho : okT t 16) (hl : (nodesT t).length ≤ 1000000) (w : World) (hT : TAt w pt t) :
  Calls Tryz.prog 14 #[.pointer (some ⟨pt, 0, none⟩)] w (SRowP w.heap.size w (nodesT t)) := by
 have HQ := Lib.hid (ttold_any pt t ho hl w hT)
 clear hT ho hl
 go_enter Tryz.func14, Tryz.ntmps14
 go_wp2_with fail
 refine HQ.out.mono ?_
 rintro e w1 ⟨v, rfl, hr, hb⟩
 obtain ⟨va, vc, rfl⟩ := hr.form
 have HR := Lib.hid hr
 clear hr HQ
 go_wp2_with fail
 go_ret
 exact ⟨_, rfl, HR.out, hb⟩
end Go.Proofs.YtjppbomngnomhaaGreatDoor
namespace Go.Proofs.YtjppbomngnomhaaGreatDoor
namespace Pl
theorem one_kid {kid : Nat → Bs} (h : oneKidX kid (kid 0) = true) (h32 : (kid 0).length = 32) : kidsF kid = [kid 0] := by
 simp only [oneKidX, sameL, decide_eq_true_eq] at h
 have hz : ∀ i, 1 ≤ i → i < 16 → kid i = [] := by
  intro i h1 hi
  have := congrArg (fun l => l[i]?) h
  simp only [kidL, List.getElem?_map, List.getElem?_range hi, Option.map_some] at this
  rw [show i = (i - 1) + 1 from by omega, List.getElem?_cons_succ, List.getElem?_replicate, if_pos (by omega)] at this
  rw [show i = (i - 1) + 1 from by omega]
  exact Option.some.inj this
 have hne : kid 0 ≠ [] := by intro e; rw [e] at h32; simp at h32
 have hto : ∀ n, 1 ≤ n → n ≤ 16 → kidsTo kid n = [kid 0] := by
  intro n
  induction n with
  | zero => intro h1; omega
  | succ n ih =>
   intro _ hn
   rw [kidsTo_succ]
   by_cases h0 : n = 0
   ·subst h0
    rw [if_neg hne]; rfl
   ·rw [ih (by omega) (by omega), hz n (by omega) (by omega), if_pos rfl, List.append_nil]
 exact hto 16 (by omega) (by omega)
theorem no_kid {kid : Nat → Bs} (h : noKids kid = true) : kidsF kid = [] := by
 simp only [noKids, sameL, decide_eq_true_eq] at h
 have hz : ∀ i, i < 16 → kid i = [] := by
  intro i hi
  have := congrArg (fun l => l[i]?) h
  simp only [kidL, List.getElem?_map, List.getElem?_range hi, Option.map_some] at this
  rw [List.getElem?_replicate, if_pos hi] at this
  exact Option.some.inj this
 have hto : ∀ n, n ≤ 16 → kidsTo kid n = [] := by
  intro n
  induction n with
  | zero => intro _; rfl
  | succ n ih => intro hn; rw [kidsTo_succ, ih (by omega), hz n (by omega), if_pos rfl, List.append_nil]
 exact hto 16 (by omega)
end Pl
end Go.Proofs.YtjppbomngnomhaaGreatDoor
namespace Go.Proofs.YtjppbomngnomhaaGreatDoor
open Pl
def kidsT (T : List Ent) (k : Bs) : List Bs := if (nodeT T k).2 = 0 then kidsF (nodeT T k).1.kid else []
inductive Rch (T : List Ent) (S : List Bs) : Bs → Prop
 | start {s : Bs} : s ∈ S → s ∈ keysE T → Rch T S s
 | step {a s : Bs} : Rch T S a → s ∈ kidsT T a → s ∈ keysE T → Rch T S s
structure RInv (T : List Ent) (S I W : List Bs) : Prop where
 nd : I.Nodup
 keys : ∀ x ∈ I, x ∈ keysE T
 rch : ∀ x ∈ I, Rch T S x
 wait : ∀ x ∈ W, x ∈ S ∨ ∃ a ∈ I, x ∈ kidsT T a
 all : ∀ x ∈ S, x ∈ keysE T → x ∈ I ∨ x ∈ W
 kid : ∀ a ∈ I, ∀ x ∈ kidsT T a, x ∈ keysE T → x ∈ I ∨ x ∈ W
theorem RInv.start (T : List Ent) (S : List Bs) : RInv T S [] S :=
 ⟨List.nodup_nil, fun _ h => (by cases h), fun _ h => (by cases h), fun _ h => .inl h, fun _ h _ => .inr h, fun _ h => (by cases h)⟩
theorem RInv.skip {T : List Ent} {S I W : List Bs} {s : Bs} (h : RInv T S I (W ++ [s])) (hs : s ∉ keysE T ∨ s ∈ I) : RInv T S I W := by
 refine ⟨h.nd, h.keys, h.rch, fun x hx => h.wait x (by simp [hx]), fun x hx hk => ?_, fun a ha x hx hk => ?_⟩
 ·rcases h.all x hx hk with h1 | h1
  ·exact .inl h1
  ·rcases List.mem_append.1 h1 with h1 | h1
   ·exact .inr h1
   ·rw [List.mem_singleton] at h1
    subst h1
    rcases hs with hs | hs
    ·exact absurd hk hs
    ·exact .inl hs
 ·rcases h.kid a ha x hx hk with h1 | h1
  ·exact .inl h1
  ·rcases List.mem_append.1 h1 with h1 | h1
   ·exact .inr h1
   ·rw [List.mem_singleton] at h1
    subst h1
    rcases hs with hs | hs
    ·exact absurd hk hs
    ·exact .inl hs
theorem RInv.take {T : List Ent} {S I W : List Bs} {s : Bs} (h : RInv T S I (W ++ [s])) (hk : s ∈ keysE T) (hn : s ∉ I) : RInv T S (I ++ [s]) (W ++ kidsT T s) := by
 have hr : Rch T S s := by
  rcases h.wait s (by simp) with h1 | ⟨a, ha, h1⟩
  ·exact .start h1 hk
  ·exact .step (h.rch a ha) h1 hk
 have hmv : ∀ x, x ∈ I ∨ x ∈ W ++ [s] → x ∈ I ++ [s] ∨ x ∈ W ++ kidsT T s := by
  rintro x (hx | hx)
  ·exact .inl (by simp [hx])
  ·rcases List.mem_append.1 hx with hx | hx
   ·exact .inr (by simp [hx])
   ·exact .inl (by simp at hx; simp [hx])
 refine ⟨?_, fun x hx => ?_, fun x hx => ?_, fun x hx => ?_, fun x hx hxk => hmv x (h.all x hx hxk), fun a ha x hx hxk => ?_⟩
 ·rw [List.nodup_append]
  exact ⟨h.nd, by simp, fun a ha b hb e => by simp at hb; subst hb e; exact hn ha⟩
 ·rcases List.mem_append.1 hx with hx | hx
  ·exact h.keys x hx
  ·rw [List.mem_singleton] at hx; subst hx; exact hk
 ·rcases List.mem_append.1 hx with hx | hx
  ·exact h.rch x hx
  ·rw [List.mem_singleton] at hx; subst hx; exact hr
 ·rcases List.mem_append.1 hx with hx | hx
  ·rcases h.wait x (by simp [hx]) with h1 | ⟨a, ha, h1⟩
   ·exact .inl h1
   ·exact .inr ⟨a, by simp [ha], h1⟩
  ·exact .inr ⟨s, by simp, hx⟩
 ·rcases List.mem_append.1 ha with ha | ha
  ·exact hmv x (h.kid a ha x hx hxk)
  ·rw [List.mem_singleton] at ha
   subst ha
   exact .inr (by simp [hx])
theorem RInv.done {T : List Ent} {S I : List Bs} (h : RInv T S I []) : ∀ s, s ∈ I ↔ Rch T S s := by
 intro s
 refine ⟨h.rch s, fun hr => ?_⟩
 induction hr with
 | start h1 h2 => rcases h.all _ h1 h2 with h3 | h3; exact h3; cases h3
 | step _ h1 h2 ih => rcases h.kid _ ih _ h1 h2 with h3 | h3; exact h3; cases h3
theorem RInv.len {T : List Ent} {S I W : List Bs} (h : RInv T S I W) : I.length ≤ T.length := by
 have := nodup_len I (keysE T) h.nd h.keys
 unfold keysE at this
 rwa [List.length_map] at this
theorem kids_le (T : List Ent) (k : Bs) : (kidsT T k).length ≤ 16 := by
 unfold kidsT
 split
 ·exact kidsTo_len _ 16
 ·simp
theorem chk_32 {kind : Int} {path val : Bs} {kid : Nat → Bs} (h : chk kind path val kid = true) : ∀ x ∈ kidsF kid, x.length ≤ 32 := by
 unfold chk at h
 intro x hx
 split at h
 ·simp only [Bool.and_eq_true] at h
  rw [no_kid h.1.1.1] at hx
  cases hx
 ·split at h
  ·simp only [Bool.and_eq_true] at h
   have h32 : (kid 0).length = 32 := by simpa [all32] using h.1.1.2
   rw [one_kid h.1.1.1 h32] at hx
   simp at hx
   subst hx
   omega
  ·split at h
   ·simp only [Bool.and_eq_true] at h
    have := h.1.1.2
    unfold all32 at this
    rw [List.all_eq_true] at this
    have := this x hx
    simp at this
    omega
   ·cases h
theorem decEnd_chk (x : Nd × Bs × Int) (f : Bool) (h : (decEnd x f).2 = 0) : chk (decEnd x f).1.kind (decEnd x f).1.path (decEnd x f).1.val (decEnd x f).1.kid = true := by
 unfold decEnd at *
 split
 ·rename_i hc
  exact hc.2.2
 ·rename_i hc
  rw [if_neg hc] at h
  exact absurd h (by decide)
theorem dec_chk (s : Bs) (h : (dec s).2 = 0) : chk (dec s).1.kind (dec s).1.path (dec s).1.val (dec s).1.kid = true := by
 unfold dec at *
 split at h
 ·exact absurd h (by decide)
 ·split at h
  ·split at h
   ·simp only [*]
    exact decEnd_chk _ _ h
   ·exact absurd h (by decide)
  ·split at h
   ·simp only [*]
    exact decEnd_chk _ _ h
   ·simp only [*]
    exact decEnd_chk _ _ h
theorem kids_short (T : List Ent) (k : Bs) : ∀ x ∈ kidsT T k, x.length ≤ 32 := by
 intro x hx
 unfold kidsT at hx
 split at hx
 ·rename_i h0
  by_cases hin : k ∈ keysE T
  ·rw [nodeT_in hin] at h0 hx
   exact chk_32 (dec_chk _ h0) x hx
  ·rw [nodeT_out hin] at h0
   exact absurd h0 (by decide)
 ·cases hx
end Go.Proofs.YtjppbomngnomhaaGreatDoor
namespace Go.Proofs.YtjppbomngnomhaaGreatDoor
open Go.Shelf
def laysCloneS_ren : Go.Shelf.Ren := ⟨fun | 41 => 60 | n => n, fun | 22 => 39 | 23 => 9 | 4 => 4 | n => n, fun | n => n⟩
theorem laysCloneS : Go.Proofs.SlLaysE0.n41 Tryz.prog laysCloneS_ren := {
 mixed := by kernel_rfl
 f41 := ⟨Tryz.f60.name, by decide, Tryz.func60.trans (congrArg some (by kernel_rfl))⟩
 t4 := Tryz.underlying4
 a4 := Tryz.isAgg4
 z4 := Tryz.sizeOf4
 v4 := Tryz.zeroValue4
 t22 := Tryz.underlying39
 a22 := Tryz.isAgg39
 z22 := Tryz.sizeOf39
 v22 := Tryz.zeroValue39 }
end Go.Proofs.YtjppbomngnomhaaGreatDoor
namespace Go.Proofs.YtjppbomngnomhaaGreatDoor
open Go.RowKit Pl
section
variable {ops : Array Oper} {o : Oper} {rest : List Oper} {a : Act} {w : World} {Q : Exit → Act → World → Prop}
theorem wpList_appSS (hgd : o.guard = none) (s x : Operand)
  (ho : o.op = .call { callee := .builtin .append, args := #[s, x], argTypes := #[39, 39] })
  (base : Nat) (v : Value) (l : List Bs) (hs : a.eval s = v) (hown : SRow w base v l)
  (u : Value) (news : List Bs) (hx : a.eval x = u) (hsrc : SS w u news)
  (hlen : l.length + news.length ≤ 8796093022208) (hbase : base ≤ w.heap.size)
  (h : ∀ v' w', SRow w' base v' (l ++ news) → Below base w w' → wpList Tryz.prog ops Q rest (a.put o.dst v') w') : wpList Tryz.prog ops Q (o :: rest) a w := by
 obtain ⟨au, cu, hu, h1, h2, h3⟩ := hsrc
 by_cases hn : news = []
 ·subst hn
  obtain ⟨i0, hi, hz0, hz1, hz2⟩ := info_parts infoStr
  obtain ⟨va, vc, hv⟩ := hown.form
  have hle : l.length ≤ vc := by
   rcases hown.cells with ⟨e, e2⟩ | ⟨g, cap, e, _, _, h4, _⟩
   ·subst e2; simp
   ·rw [hv] at e; injection e with _ _ e; subst e; exact h4
  have hS : Src Tryz.prog i0.size 39 u 0 [] w := by
   subst hu
   cases au with
   | none => exact Src.ofNil w Tryz.underlying39 cu
   | some ad => exact Src.ofSlice w Tryz.underlying39 ad 0 cu [] (by simp) (fun j u h => by simp at h) (fun _ h => by cases h)
  have hr := run_append_nothing (P := Tryz.prog) w 39 39 o.type 9 i0 Tryz.underlying39 hi va l.length vc hle u hS
  refine wpList_plain hgd fun K hK => ?_
  unfold Oper.wp execOp
  simp only [ho, resolve, invoke, builtin, Sem.run_bind, Sem.run_pure, Result.andThen_ok, List.map_toArray, List.map_cons, List.map_nil, hs, hx, hv, hr]
  exact hK _ _ (h _ w (by rw [List.append_nil, ← hv]; exact hown) (Below.refl _ _))
 ·obtain ⟨g, off, rfl, hg, hc⟩ := h3 hn
  exact wpList_appS hgd s x ho base v l hs hown g off news.length cu news (hx.trans hu) rfl hc hlen hbase h
end
theorem SRow.lt {w : World} {b : Nat} {v : Value} {l : List Bs} (h : SRow w b v l) : ∀ k, v.ownBlock = some k → k < w.heap.size := by
 intro k hk
 rcases h.cells with ⟨rfl, _⟩ | ⟨g, cap, rfl, _, hg, _⟩
 ·cases hk
 ·cases hk; exact hg
theorem SRow.grown {w w' : World} {b : Nat} {row : Option Nat} {v : Value} {l : List Bs} (h : SRow w b v l) (hg : w.grownBy w' row) (hn : ∀ k, v.ownBlock = some k → row ≠ some k) : SRow w' b v l :=
 h.kept (fun k hk => hg.block k (h.lt k hk) (fun e => hn k hk e.symm))
end Go.Proofs.YtjppbomngnomhaaGreatDoor
