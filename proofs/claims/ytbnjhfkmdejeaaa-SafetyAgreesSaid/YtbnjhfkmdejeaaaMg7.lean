/- Vote. -/
import Derived.Test.YtbnjhfkmdejeaaaMg6
set_option linter.unnecessarySimpa false

/- The walk: a member votes for a block, if the rules let it, or it keeps to none. -/
set_option linter.unusedSimpArgs false
set_option linter.unusedVariables false
namespace Go.Proofs.Ytbnjhfkmdejeaaa
open Go.RowKit Pl

theorem sv_app (l : List Bs) (x : Bs) : sv (l ++ [x]) = sv l ++ [.string ⟨List.toArray (x)⟩] := by simp [sv]
section
variable {base p : Nat} {sv0 pv vv tv rr : Value} {ts : List Value} {P V : List Int} {T : List (List Bs)} {R : List (Int × Int)}
theorem LineV.vot_lt {w : World} {g cap : Nat} (h : LineV w base p sv0 pv vv (.slice (some ⟨g, 0, none⟩) ts.length cap) rr ts P V T R) : g < w.heap.size := (h.trow.lt g rfl).2
theorem LineV.vot_after {w w1 : World} {g cap b : Nat} (h : LineV w base p sv0 pv vv (.slice (some ⟨g, 0, none⟩) ts.length cap) rr ts P V T R) (hb : b < T.length) (hg : w.grownBy w1 (ts.getD b nilS).ownBlock) :
    w1.cell? ⟨g, b, none⟩ = some (ts.getD b nilS) ∧ w1.frozen? ⟨g, b, none⟩ = false := by
  obtain ⟨g', cap', e, h1, h2, h3⟩ := h.vot b hb
  injection e with e _ _
  injection e with e
  injection e with e _ _
  subst e
  have hk : w1.heap[g]? = w.heap[g]? := hg.block g h1 (fun e => kinds_ne h.trow (h.each b hb) (by decide) g rfl e.symm)
  exact ⟨(World.cell?_of_block (a := ⟨g, b, none⟩) hk).trans h2, (World.frozen?_of_block (a := ⟨g, b, none⟩) hk).trans (h3 b)⟩
theorem LineV.parC {w : World} {g n c : Nat} (h : LineV w base p sv0 (.slice (some ⟨g, 0, none⟩) n c) vv tv rr ts P V T R) (i : Nat) (hi : i < P.length) : w.cell? ⟨g, i, none⟩ = some (.int .i64 (P.getD i 0)) := by
  obtain ⟨g', c', e, _, q⟩ := h.par i hi
  injection e with e _ _
  injection e with e
  injection e with e _ _
  rw [e]; exact q
theorem LineV.viewC {w : World} {g n c : Nat} (h : LineV w base p sv0 pv (.slice (some ⟨g, 0, none⟩) n c) tv rr ts P V T R) (i : Nat) (hi : i < V.length) : w.cell? ⟨g, i, none⟩ = some (.int .i64 (V.getD i 0)) := by
  obtain ⟨g', c', e, _, q⟩ := h.view i hi
  injection e with e _ _
  injection e with e
  injection e with e _ _
  rw [e]; exact q
theorem LineV.ruleC {w : World} {g n c : Nat} (h : LineV w base p sv0 pv vv tv (.slice (some ⟨g, 0, none⟩) n c) ts P V T R) (i : Nat) (hi : i < R.length) : w.cell? ⟨g, i * 2, none⟩ = some (.int .i64 ((R.getD i (0, 0)).1)) ∧ w.cell? ⟨g, i * 2 + 1, none⟩ = some (.int .i64 ((R.getD i (0, 0)).2)) ∧ (∀ o, w.frozen? ⟨g, o, none⟩ = false) := by
  obtain ⟨g', c', e, _, q⟩ := h.rule i hi
  injection e with e _ _
  injection e with e
  injection e with e _ _
  rw [e]; exact q
set_option maxRecDepth 100000 in
set_option maxHeartbeats 2000000 in
theorem lvote_any (PN : List Nat) (hP : WfP PN V) (l : List (Bs × Int)) (m b : Nat) (bad : Bool) (hm : m < l.length) (hb : b < PN.length) (hV : V.length = PN.length) (hT : T.length = PN.length) (hR : R.length = l.length) (hln : l.length ≤ 1000000) (hPn : PN.length ≤ 1000) (hTn : ∀ c, (T.getD c []).length ≤ 1000)
    (hTl : ∀ c i, i < (T.getD c []).length → ((T.getD c []).getD i []).length ≤ maxLen) (w : World) (hbase : base ≤ w.heap.size) (hL : LineV w base p sv0 pv vv tv rr ts (castP PN) V T R) (hM : ∀ w', Below base w w' → MS w' sv0 l) :
    Calls Try.prog 10 #[.pointer (some ⟨p, 0, none⟩), .int .i64 ((m : Int)), .int .i64 ((b : Int)), .bool bad] w fun e w' => e = .returned (.tuple #[]) ∧ (∃ ts', LineV w' base p sv0 pv vv tv rr ts' (castP PN) V (voteA l PN V bad m b (T, R)).1 (voteA l PN V bad m b (T, R)).2) ∧ Below base w w' := by
  by_cases h0 : b = 0
  · subst h0
    have hv : voteA l PN V bad m 0 (T, R) = (T, R) := by simp [voteA]
    rw [hv]
    have HL := Lib.hid hL
    clear hL hM
    go_enter Try.func10, Try.ntmps10
    go_wp2_with fail
    all_goals (first | refine bodyPost_ret (results_none rfl _ _ _) rfl ?_ | refine bodyPost_end (results_none rfl _ _ _) rfl ?_)
    all_goals exact ⟨rfl, ⟨_, HL.out⟩, Below.refl _ _⟩
  have d0 : ((b : Int) == 0) = false := by simp; omega
  have hbT : b < T.length := by omega
  have hbts : b < ts.length := by rw [hL.tl]; exact hbT
  obtain ⟨tg, tcap, rfl, htl, q0, q1⟩ := hL.vot b hbT
  have htg := (hL.trow.lt tg rfl).1
  obtain ⟨ma, mc, rfl⟩ := (hM w (Below.refl _ _)).form
  obtain ⟨mg, mo, rfl, _⟩ := (hM w (Below.refl _ _)).at m hm
  have hnm : ∀ w', Below base w w' → w'.cell? ⟨mg, mo + m * 2, none⟩ = some (.string ⟨List.toArray (nmA l m)⟩) := by
    intro w' h
    obtain ⟨g', o', e, _, c, _⟩ := (hM w' h).at m hm
    injection e with e
    injection e with e1 e2 _
    subst e1 e2
    exact c
  obtain ⟨Lb, hlb⟩ : ∃ Lb, Lb = T.getD b [] := ⟨_, rfl⟩
  have HLB := Lib.hid hlb
  have hLbn : Lb.length ≤ 1000 := by rw [hlb]; exact hTn b
  obtain ⟨tb, htb⟩ : ∃ tb, tb = ts.getD b nilS := ⟨_, rfl⟩
  have HTB := Lib.hid htb
  rw [← htb] at q0
  have hEb : ∀ (R' : List (Int × Int)) (w' : World), LineV w' base p (.slice (some ⟨mg, mo, none⟩) l.length mc) pv vv (.slice (some ⟨tg, 0, none⟩) ts.length tcap) rr ts (castP PN) V T R' → SRow w' base tb Lb := fun _ _ h => by rw [htb, hlb]; exact h.each b hbT
  clear htb hlb
  have hmi : 0 ≤ (m : Int) ∧ (m : Int) < (l.length : Int) := by omega
  have hbi : 0 ≤ (b : Int) ∧ (b : Int) < (ts.length : Int) := by omega
  cases bad
  case true =>
    have hv : voteA l PN V true m b (T, R) = (T.set b (Lb ++ [nmA l m]), R) := by rw [HLB.out]; simp [voteA, h0, addV]
    rw [hv]
    have HL := Lib.hid hL
    clear hL hM q0 q1
    go_enter Try.func10, Try.ntmps10
    go_wp2_with fail
    have hmp : p ∉ tg :: tb.ownBlock.toList := by
      intro hx
      rcases List.mem_cons.1 hx with e | hx
      · exact HL.out.np (.slice (some ⟨tg, 0, none⟩) ts.length tcap) (by simp) (by rw [e]; rfl)
      · exact HL.out.np _ (.tail _ (.tail _ (.tail _ (.tail _ (ts_mem hbts))))) (by rw [← HTB.out]; simpa using hx)
    have hmb : ∀ x ∈ tg :: tb.ownBlock.toList, base ≤ x := by
      intro x hx
      rcases List.mem_cons.1 hx with e | hx
      · rw [e]; exact htg
      · exact (HL.out.each b hbT).own x (by rw [← HTB.out]; simpa using hx)
    have hvot : w.cell? ⟨tg, b, none⟩ = some tb := by
      rw [HTB.out]
      obtain ⟨g2, c2, e2, _, q2, _⟩ := HL.out.vot b hbT
      injection e2 with e2 _ _
      injection e2 with e2
      injection e2 with e2 _ _
      rw [e2]; exact q2
    have hbw : base ≤ w.heap.size := hbase
    refine wpH_startM (tg :: tb.ownBlock.toList) (by kernel_rfl) (fun hS => ?_)
    have hLr := HL.out.keep ((Below.refl _ _).drew)
    replace hvot : (World.drew _).cell? ⟨tg, b, none⟩ = _ := hvot
    (refine wpH_pure 0 ?_ (oi := { dst := some 75, op := Op.move (Operand.tmp 0), type := 32, pos := "theorems.go:85", after := #[], guard := none }) rfl (by kernel_rfl) (by kernel_rfl) (by kernel_rfl) (by rfl) hS (fun _ _ _ h => h) ?_ ?_; rotate_left; focus (intro w; go_simp; try with_reducible rfl))
    try simp only [Act.put, List.setIfInBounds_toArray, List.set_cons_zero, List.set_cons_succ]
    (refine wpH_pure 1 ?_ (oi := { dst := some 76, op := Op.nilCheck (Operand.tmp 75), type := 0, pos := "theorems.go:85", after := #[{ on := 0, ground := Ground.data }], guard := none }) rfl (by kernel_rfl) (by kernel_rfl) (by kernel_rfl) (by rfl) hS (fun _ _ _ h => h) ?_ ?_; rotate_left; focus (intro w; go_simp; try with_reducible rfl))
    try simp only [Act.put, List.setIfInBounds_toArray, List.set_cons_zero, List.set_cons_succ]
    (refine wpH_pure 2 ?_ (oi := { dst := some 77, op := Op.fieldAddr 37 (Operand.tmp 76) 3, type := 0, pos := "theorems.go:85", after := #[{ on := 1, ground := Ground.data }], guard := none }) rfl (by kernel_rfl) (by kernel_rfl) (by kernel_rfl) (by rfl) hS (fun _ _ _ h => h) ?_ ?_; rotate_left; focus (intro w; go_simp; try with_reducible rfl))
    try simp only [Act.put, List.setIfInBounds_toArray, List.set_cons_zero, List.set_cons_succ]
    refine wpH_load 3 (.slice (some ⟨tg, 0, none⟩) ts.length tcap) (oi := { dst := some 78, op := Op.load 34 (Operand.tmp 77), type := 34, pos := "theorems.go:85", after := #[{ on := 2, ground := Ground.data }], guard := none }) rfl (by kernel_rfl) (by kernel_rfl) (by kernel_rfl) (by rfl) hS (fun _ _ _ h => h) (fun w hb3 => (by have c := (HL.out.blk.mod hb3 hmp).cell 3; go_simp; try rfl)) ?_
    try simp only [Act.put, List.setIfInBounds_toArray, List.set_cons_zero, List.set_cons_succ]
    (refine wpH_pure 4 ?_ (oi := { dst := some 79, op := Op.move (Operand.tmp 2), type := 3, pos := "theorems.go:85", after := #[], guard := none }) rfl (by kernel_rfl) (by kernel_rfl) (by kernel_rfl) (by rfl) hS (fun _ _ _ h => h) ?_ ?_; rotate_left; focus (intro w; go_simp; try with_reducible rfl))
    try simp only [Act.put, List.setIfInBounds_toArray, List.set_cons_zero, List.set_cons_succ]
    (refine wpH_pure 5 ?_ (oi := { dst := some 80, op := Op.move (Operand.tmp 0), type := 32, pos := "theorems.go:85", after := #[], guard := none }) rfl (by kernel_rfl) (by kernel_rfl) (by kernel_rfl) (by rfl) hS (fun _ _ _ h => h) ?_ ?_; rotate_left; focus (intro w; go_simp; try with_reducible rfl))
    try simp only [Act.put, List.setIfInBounds_toArray, List.set_cons_zero, List.set_cons_succ]
    (refine wpH_pure 6 ?_ (oi := { dst := some 81, op := Op.nilCheck (Operand.tmp 80), type := 0, pos := "theorems.go:85", after := #[{ on := 5, ground := Ground.data }], guard := none }) rfl (by kernel_rfl) (by kernel_rfl) (by kernel_rfl) (by rfl) hS (fun _ _ _ h => h) ?_ ?_; rotate_left; focus (intro w; go_simp; try with_reducible rfl))
    try simp only [Act.put, List.setIfInBounds_toArray, List.set_cons_zero, List.set_cons_succ]
    (refine wpH_pure 7 ?_ (oi := { dst := some 82, op := Op.fieldAddr 37 (Operand.tmp 81) 3, type := 0, pos := "theorems.go:85", after := #[{ on := 6, ground := Ground.data }], guard := none }) rfl (by kernel_rfl) (by kernel_rfl) (by kernel_rfl) (by rfl) hS (fun _ _ _ h => h) ?_ ?_; rotate_left; focus (intro w; go_simp; try with_reducible rfl))
    try simp only [Act.put, List.setIfInBounds_toArray, List.set_cons_zero, List.set_cons_succ]
    refine wpH_load 8 (.slice (some ⟨tg, 0, none⟩) ts.length tcap) (oi := { dst := some 83, op := Op.load 34 (Operand.tmp 82), type := 34, pos := "theorems.go:85", after := #[{ on := 7, ground := Ground.data }], guard := none }) rfl (by kernel_rfl) (by kernel_rfl) (by kernel_rfl) (by rfl) hS (fun _ _ _ h => h) (fun w hb3 => (by have c := (HL.out.blk.mod hb3 hmp).cell 3; go_simp; try rfl)) ?_
    try simp only [Act.put, List.setIfInBounds_toArray, List.set_cons_zero, List.set_cons_succ]
    (refine wpH_pure 9 ?_ (oi := { dst := some 84, op := Op.move (Operand.tmp 2), type := 3, pos := "theorems.go:85", after := #[], guard := none }) rfl (by kernel_rfl) (by kernel_rfl) (by kernel_rfl) (by rfl) hS (fun _ _ _ h => h) ?_ ?_; rotate_left; focus (intro w; go_simp; try with_reducible rfl))
    try simp only [Act.put, List.setIfInBounds_toArray, List.set_cons_zero, List.set_cons_succ]
    (refine wpH_pure 10 ?_ (oi := { dst := some 85, op := Op.indexAddr 34 (Operand.tmp 83) (Operand.tmp 84), type := 0, pos := "theorems.go:85", after := #[{ on := 8, ground := Ground.data }, { on := 9, ground := Ground.data }], guard := none }) rfl (by kernel_rfl) (by kernel_rfl) (by kernel_rfl) (by rfl) hS (fun _ _ _ h => h) ?_ ?_; rotate_left; focus (intro w; go_simp; try with_reducible rfl))
    try simp only [Act.put, List.setIfInBounds_toArray, List.set_cons_zero, List.set_cons_succ]
    (refine wpH_pure 12 ?_ (oi := { dst := some 87, op := Op.move (Operand.tmp 0), type := 32, pos := "theorems.go:85", after := #[], guard := none }) rfl (by kernel_rfl) (by kernel_rfl) (by kernel_rfl) (by rfl) hS (fun _ _ _ h => h) ?_ ?_; rotate_left; focus (intro w; go_simp; try with_reducible rfl))
    try simp only [Act.put, List.setIfInBounds_toArray, List.set_cons_zero, List.set_cons_succ]
    (refine wpH_pure 13 ?_ (oi := { dst := some 88, op := Op.nilCheck (Operand.tmp 87), type := 0, pos := "theorems.go:85", after := #[{ on := 12, ground := Ground.data }], guard := none }) rfl (by kernel_rfl) (by kernel_rfl) (by kernel_rfl) (by rfl) hS (fun _ _ _ h => h) ?_ ?_; rotate_left; focus (intro w; go_simp; try with_reducible rfl))
    try simp only [Act.put, List.setIfInBounds_toArray, List.set_cons_zero, List.set_cons_succ]
    (refine wpH_pure 14 ?_ (oi := { dst := some 89, op := Op.fieldAddr 37 (Operand.tmp 88) 0, type := 0, pos := "theorems.go:85", after := #[{ on := 13, ground := Ground.data }], guard := none }) rfl (by kernel_rfl) (by kernel_rfl) (by kernel_rfl) (by rfl) hS (fun _ _ _ h => h) ?_ ?_; rotate_left; focus (intro w; go_simp; try with_reducible rfl))
    try simp only [Act.put, List.setIfInBounds_toArray, List.set_cons_zero, List.set_cons_succ]
    refine wpH_load 15 (.slice (some ⟨mg, mo, none⟩) l.length mc) (oi := { dst := some 90, op := Op.load 22 (Operand.tmp 89), type := 22, pos := "theorems.go:85", after := #[{ on := 14, ground := Ground.data }], guard := none }) rfl (by kernel_rfl) (by kernel_rfl) (by kernel_rfl) (by rfl) hS (fun _ _ _ h => h) (fun w hb3 => (by have c := (HL.out.blk.mod hb3 hmp).cell 0; go_simp; try rfl)) ?_
    try simp only [Act.put, List.setIfInBounds_toArray, List.set_cons_zero, List.set_cons_succ]
    (refine wpH_pure 16 ?_ (oi := { dst := some 91, op := Op.move (Operand.tmp 1), type := 3, pos := "theorems.go:85", after := #[], guard := none }) rfl (by kernel_rfl) (by kernel_rfl) (by kernel_rfl) (by rfl) hS (fun _ _ _ h => h) ?_ ?_; rotate_left; focus (intro w; go_simp; try with_reducible rfl))
    try simp only [Act.put, List.setIfInBounds_toArray, List.set_cons_zero, List.set_cons_succ]
    (refine wpH_pure 17 ?_ (oi := { dst := some 92, op := Op.indexAddr 22 (Operand.tmp 90) (Operand.tmp 91), type := 0, pos := "theorems.go:85", after := #[{ on := 15, ground := Ground.data }, { on := 16, ground := Ground.data }], guard := none }) rfl (by kernel_rfl) (by kernel_rfl) (by kernel_rfl) (by rfl) hS (fun _ _ _ h => h) ?_ ?_; rotate_left; focus (intro w; go_simp; try with_reducible rfl))
    try simp only [Act.put, List.setIfInBounds_toArray, List.set_cons_zero, List.set_cons_succ]
    (refine wpH_pure 18 ?_ (oi := { dst := some 93, op := Op.fieldAddr 42 (Operand.tmp 92) 0, type := 0, pos := "theorems.go:85", after := #[{ on := 17, ground := Ground.data }], guard := none }) rfl (by kernel_rfl) (by kernel_rfl) (by kernel_rfl) (by rfl) hS (fun _ _ _ h => h) ?_ ?_; rotate_left; focus (intro w; go_simp; try with_reducible rfl))
    try simp only [Act.put, List.setIfInBounds_toArray, List.set_cons_zero, List.set_cons_succ]
    refine wpH_load 19 (.string ⟨List.toArray (nmA l m)⟩) (oi := { dst := some 94, op := Op.load 9 (Operand.tmp 93), type := 9, pos := "theorems.go:85", after := #[{ on := 18, ground := Ground.data }], guard := none }) rfl (by kernel_rfl) (by kernel_rfl) (by kernel_rfl) (by rfl) hS (fun _ _ _ h => h) (fun w hb3 => (by have c := hnm w (Below.mod (Below.refl base _) hb3 hbw hmb); go_simp; try rfl)) ?_
    try simp only [Act.put, List.setIfInBounds_toArray, List.set_cons_zero, List.set_cons_succ]
    refine wpAnyH_all (rs := [11, 20]) (by kernel_rfl) (by simp) (fun jj hjj => ?_)
    simp only [List.mem_cons, List.not_mem_nil, or_false] at hjj
    rcases hjj with rfl | rfl
    refine wpO_op (oi := { dst := some 86, op := Op.load 23 (Operand.tmp 85), type := 23, pos := "theorems.go:85", after := #[{ on := 10, ground := Ground.data }], guard := none }) rfl (by rfl) ?_
    refine wp_loads tb (by go_simp; try rfl) ?_
    refine ⟨hS, ?_⟩
    try simp only [Act.put, List.setIfInBounds_toArray, List.set_cons_zero, List.set_cons_succ]
    refine wpH_op 20 (oi := { dst := some 95, op := Op.buildSlice 23 1 #[(0, Operand.tmp 94)], type := 23, pos := "theorems.go:85", after := #[{ on := 19, ground := Ground.data }], guard := none }) rfl (by kernel_rfl) (by rfl) ?_
    unfold Oper.wp
    go_simp
    refine hold_and (Mod.alloc hS _) (fun hS => ?_)
    replace hvot : (World.drew (World.alloc w (.cells #[.string ⟨List.toArray (nmA l m)⟩] 9))).cell? ⟨tg, b, none⟩ = some tb := (World.cell?_alloc_past (.cells #[.string ⟨List.toArray (nmA l m)⟩] 9) tg b hLr.vot_lt).trans hvot
    replace hLr := hLr.keep (Below.allocS (Below.refl _ _) (.cells #[.string ⟨List.toArray (nmA l m)⟩] 9))
    try simp only [Act.put, List.setIfInBounds_toArray, List.set_cons_zero, List.set_cons_succ]
    refine wpH_op 21 (oi := { dst := some 96, op := Op.call { callee := Callee.builtin Builtin.append, args := #[Operand.tmp 86, Operand.tmp 95], argTypes := #[23, 23] }, type := 23, pos := "theorems.go:85", after := #[{ on := 11, ground := Ground.data }, { on := 20, ground := Ground.data }], guard := none }) rfl (by kernel_rfl) (by rfl) ?_
    refine wp_app1 (.tmp 86) (.tmp 95) 23 9 (.string ⟨#[]⟩) 16 Try.underlying23 infoStr rfl (by decide) rfl base _ _ (.string ⟨List.toArray (nmA l m)⟩) _ rfl (hEb _ _ hLr) _ rfl (by simp) rfl (by omega) (Nat.le_trans hbw hS.size) (fun t' w' hr hg ho => ?_)
    obtain ⟨ta, tc, rfl⟩ := row_form hr
    obtain ⟨k1, k2⟩ := hLr.vot_after hbT (HTB.out ▸ hg)
    rw [← HTB.out] at k1
    refine hold_and (Mod.call hS (Mod.of_grown hg) (fun x hx => .inl (.tail _ hx))) (fun hS => ?_)
    try simp only [Act.put, List.setIfInBounds_toArray, List.set_cons_zero, List.set_cons_succ]
    (refine wpH_pure 22 ?_ (oi := { dst := some 97, op := Op.indexAddr 34 (Operand.tmp 78) (Operand.tmp 79), type := 0, pos := "theorems.go:85", after := #[{ on := 3, ground := Ground.data }, { on := 4, ground := Ground.data }, { on := 0, ground := Ground.phase }, { on := 1, ground := Ground.phase }, { on := 2, ground := Ground.phase }, { on := 3, ground := Ground.phase }, { on := 4, ground := Ground.phase }, { on := 5, ground := Ground.phase }, { on := 6, ground := Ground.phase }, { on := 7, ground := Ground.phase }, { on := 8, ground := Ground.phase }, { on := 9, ground := Ground.phase }, { on := 10, ground := Ground.phase }, { on := 11, ground := Ground.phase }, { on := 12, ground := Ground.phase }, { on := 13, ground := Ground.phase }, { on := 14, ground := Ground.phase }, { on := 15, ground := Ground.phase }, { on := 16, ground := Ground.phase }, { on := 17, ground := Ground.phase }, { on := 18, ground := Ground.phase }, { on := 19, ground := Ground.phase }, { on := 20, ground := Ground.phase }, { on := 21, ground := Ground.phase }], guard := none }) rfl (by kernel_rfl) (by kernel_rfl) (by kernel_rfl) (by rfl) hS (fun _ _ _ h => h) ?_ ?_; rotate_left; focus (intro w; go_simp; try with_reducible rfl))
    try simp only [Act.put, List.setIfInBounds_toArray, List.set_cons_zero, List.set_cons_succ]
    refine wpH_op 23 (oi := { dst := none, op := Op.store 23 (Operand.tmp 97) (Operand.tmp 96), type := 0, pos := "theorems.go:85", after := #[{ on := 22, ground := Ground.data }, { on := 21, ground := Ground.data }, { on := 21, ground := Ground.chain }, { on := 0, ground := Ground.phase }, { on := 1, ground := Ground.phase }, { on := 2, ground := Ground.phase }, { on := 3, ground := Ground.phase }, { on := 4, ground := Ground.phase }, { on := 5, ground := Ground.phase }, { on := 6, ground := Ground.phase }, { on := 7, ground := Ground.phase }, { on := 8, ground := Ground.phase }, { on := 9, ground := Ground.phase }, { on := 10, ground := Ground.phase }, { on := 11, ground := Ground.phase }, { on := 12, ground := Ground.phase }, { on := 13, ground := Ground.phase }, { on := 14, ground := Ground.phase }, { on := 15, ground := Ground.phase }, { on := 16, ground := Ground.phase }, { on := 17, ground := Ground.phase }, { on := 18, ground := Ground.phase }, { on := 19, ground := Ground.phase }, { on := 20, ground := Ground.phase }, { on := 21, ground := Ground.phase }], guard := none }) rfl (by kernel_rfl) (by rfl) ?_
    unfold Oper.wp
    go_simp
    refine hold_and (Mod.setCell hS (p := ⟨tg, b, none⟩) (.inl (by simp)) _) (fun hS => ?_)
    try simp only [Act.put, List.setIfInBounds_toArray, List.set_cons_zero, List.set_cons_succ]
    refine wpAnyH_done (by kernel_rfl) ?_ _
    rotate_left
    refine wpO_op (oi := { dst := some 95, op := Op.buildSlice 23 1 #[(0, Operand.tmp 94)], type := 23, pos := "theorems.go:85", after := #[{ on := 19, ground := Ground.data }], guard := none }) rfl (by rfl) ?_
    unfold Oper.wp
    go_simp
    refine hold_and (Mod.alloc hS _) (fun hS => ?_)
    replace hvot : (World.drew (World.alloc w (.cells #[.string ⟨List.toArray (nmA l m)⟩] 9))).cell? ⟨tg, b, none⟩ = some tb := (World.cell?_alloc_past (.cells #[.string ⟨List.toArray (nmA l m)⟩] 9) tg b hLr.vot_lt).trans hvot
    replace hLr := hLr.keep (Below.allocS (Below.refl _ _) (.cells #[.string ⟨List.toArray (nmA l m)⟩] 9))
    try simp only [Act.put, List.setIfInBounds_toArray, List.set_cons_zero, List.set_cons_succ]
    refine wpH_op 11 (oi := { dst := some 86, op := Op.load 23 (Operand.tmp 85), type := 23, pos := "theorems.go:85", after := #[{ on := 10, ground := Ground.data }], guard := none }) rfl (by kernel_rfl) (by rfl) ?_
    refine wp_loads tb (by go_simp; try rfl) ?_
    refine ⟨hS, ?_⟩
    try simp only [Act.put, List.setIfInBounds_toArray, List.set_cons_zero, List.set_cons_succ]
    refine wpH_op 21 (oi := { dst := some 96, op := Op.call { callee := Callee.builtin Builtin.append, args := #[Operand.tmp 86, Operand.tmp 95], argTypes := #[23, 23] }, type := 23, pos := "theorems.go:85", after := #[{ on := 11, ground := Ground.data }, { on := 20, ground := Ground.data }], guard := none }) rfl (by kernel_rfl) (by rfl) ?_
    refine wp_app1 (.tmp 86) (.tmp 95) 23 9 (.string ⟨#[]⟩) 16 Try.underlying23 infoStr rfl (by decide) rfl base _ _ (.string ⟨List.toArray (nmA l m)⟩) _ rfl (hEb _ _ hLr) _ rfl (by simp) rfl (by omega) (Nat.le_trans hbw hS.size) (fun t' w' hr hg ho => ?_)
    obtain ⟨ta, tc, rfl⟩ := row_form hr
    obtain ⟨k1, k2⟩ := hLr.vot_after hbT (HTB.out ▸ hg)
    rw [← HTB.out] at k1
    refine hold_and (Mod.call hS (Mod.of_grown hg) (fun x hx => .inl (.tail _ hx))) (fun hS => ?_)
    try simp only [Act.put, List.setIfInBounds_toArray, List.set_cons_zero, List.set_cons_succ]
    (refine wpH_pure 22 ?_ (oi := { dst := some 97, op := Op.indexAddr 34 (Operand.tmp 78) (Operand.tmp 79), type := 0, pos := "theorems.go:85", after := #[{ on := 3, ground := Ground.data }, { on := 4, ground := Ground.data }, { on := 0, ground := Ground.phase }, { on := 1, ground := Ground.phase }, { on := 2, ground := Ground.phase }, { on := 3, ground := Ground.phase }, { on := 4, ground := Ground.phase }, { on := 5, ground := Ground.phase }, { on := 6, ground := Ground.phase }, { on := 7, ground := Ground.phase }, { on := 8, ground := Ground.phase }, { on := 9, ground := Ground.phase }, { on := 10, ground := Ground.phase }, { on := 11, ground := Ground.phase }, { on := 12, ground := Ground.phase }, { on := 13, ground := Ground.phase }, { on := 14, ground := Ground.phase }, { on := 15, ground := Ground.phase }, { on := 16, ground := Ground.phase }, { on := 17, ground := Ground.phase }, { on := 18, ground := Ground.phase }, { on := 19, ground := Ground.phase }, { on := 20, ground := Ground.phase }, { on := 21, ground := Ground.phase }], guard := none }) rfl (by kernel_rfl) (by kernel_rfl) (by kernel_rfl) (by rfl) hS (fun _ _ _ h => h) ?_ ?_; rotate_left; focus (intro w; go_simp; try with_reducible rfl))
    try simp only [Act.put, List.setIfInBounds_toArray, List.set_cons_zero, List.set_cons_succ]
    refine wpH_op 23 (oi := { dst := none, op := Op.store 23 (Operand.tmp 97) (Operand.tmp 96), type := 0, pos := "theorems.go:85", after := #[{ on := 22, ground := Ground.data }, { on := 21, ground := Ground.data }, { on := 21, ground := Ground.chain }, { on := 0, ground := Ground.phase }, { on := 1, ground := Ground.phase }, { on := 2, ground := Ground.phase }, { on := 3, ground := Ground.phase }, { on := 4, ground := Ground.phase }, { on := 5, ground := Ground.phase }, { on := 6, ground := Ground.phase }, { on := 7, ground := Ground.phase }, { on := 8, ground := Ground.phase }, { on := 9, ground := Ground.phase }, { on := 10, ground := Ground.phase }, { on := 11, ground := Ground.phase }, { on := 12, ground := Ground.phase }, { on := 13, ground := Ground.phase }, { on := 14, ground := Ground.phase }, { on := 15, ground := Ground.phase }, { on := 16, ground := Ground.phase }, { on := 17, ground := Ground.phase }, { on := 18, ground := Ground.phase }, { on := 19, ground := Ground.phase }, { on := 20, ground := Ground.phase }, { on := 21, ground := Ground.phase }], guard := none }) rfl (by kernel_rfl) (by rfl) ?_
    unfold Oper.wp
    go_simp
    refine hold_and (Mod.setCell hS (p := ⟨tg, b, none⟩) (.inl (by simp)) _) (fun hS => ?_)
    try simp only [Act.put, List.setIfInBounds_toArray, List.set_cons_zero, List.set_cons_succ]
    refine wpAnyH_done (by kernel_rfl) ?_ _
    rotate_left
    all_goals go_wp2_with fail
    all_goals (first | refine bodyPost_ret (results_none rfl _ _ _) rfl ?_ | refine bodyPost_end (results_none rfl _ _ _) rfl ?_)
    all_goals (exact ⟨rfl, ⟨_, by (have q := hLr.voter_app hbT (L' := Lb ++ [nmA l m]) (by (unfold SRow; rw [List.length_append, sv_app]; exact hr)) (HTB.out ▸ hg) (HTB.out ▸ ho); exact q)⟩, Below.mod (Below.refl base _) hS hbw hmb⟩)
  case false =>
    obtain ⟨u, hu⟩ : ∃ u, u = par PN b := ⟨_, rfl⟩
    have hup : u < b := by rw [hu]; exact hP.up b (by omega) hb
    have huP : par PN u < PN.length := par_lt hP (by omega)
    obtain ⟨u2, hu2⟩ : ∃ u2, u2 = par PN u := ⟨_, rfl⟩
    rw [← hu2] at huP
    have hlen := castP_len PN
    obtain ⟨pg, pcap, rfl, hpg, c0⟩ := hL.par b (by omega)
    rw [castP_at, ← hu] at c0
    have c1 := hL.parC u (by omega)
    rw [castP_at, ← hu2] at c1
    obtain ⟨vg, vcap, rfl, hvg, e0⟩ := hL.view b (by omega)
    have e1 := hL.viewC u (by omega)
    have e2 := hL.viewC u2 (by omega)
    obtain ⟨rg, rcap, rfl, hrg, r0, r1, r2⟩ := hL.rule m (by omega)
    have hrgb := (hL.rrow.lt rg rfl).1
    obtain ⟨x, hx⟩ : ∃ x, x = R.getD m (0, 0) := ⟨_, rfl⟩
    rw [← hx] at r0 r1
    obtain ⟨vb, hvb⟩ : ∃ vb, vb = vw V b := ⟨_, rfl⟩
    obtain ⟨vu, hvu⟩ : ∃ vu, vu = vw V u := ⟨_, rfl⟩
    obtain ⟨vu2, hvu2⟩ : ∃ vu2, vu2 = vw V u2 := ⟨_, rfl⟩
    rw [show V.getD b 0 = vb from hvb.symm] at e0
    rw [show V.getD u 0 = vu from hvu.symm] at e1
    rw [show V.getD u2 0 = vu2 from hvu2.symm] at e2
    have hr0 : voteR V PN x b = voteF x.1 x.2 vb vu vu2 := by unfold voteR; rw [hvb, hvu, hvu2, hu2, hu]
    have hvA : voteA l PN V false m b (T, R) = if (voteF x.1 x.2 vb vu vu2).2.2 ≠ 0 ∨ certA l T u = false then (T, R) else (T.set b (Lb ++ [nmA l m]), R.set m ((voteF x.1 x.2 vb vu vu2).1, (voteF x.1 x.2 vb vu vu2).2.1)) := by
      unfold voteA
      simp only [if_neg h0, Bool.false_eq_true, if_false]
      rw [← hx, hr0, ← hu]
      unfold addV
      rw [HLB.out]
    have hvote := vote_any x.1 x.2 vb vu vu2
    generalize voteF x.1 x.2 vb vu vu2 = f at *
    obtain ⟨f1, f2, f3⟩ := f
    simp only at hvA hvote
    obtain ⟨x1, x2⟩ := x
    simp only at r0 r1 hvote
    have hbP : 0 ≤ (b : Int) ∧ (b : Int) < ((castP PN).length : Int) := by omega
    have huPi : 0 ≤ (u : Int) ∧ (u : Int) < ((castP PN).length : Int) := by omega
    have hbV : 0 ≤ (b : Int) ∧ (b : Int) < (V.length : Int) := by omega
    have huV : 0 ≤ (u : Int) ∧ (u : Int) < (V.length : Int) := by omega
    have hu2V : 0 ≤ (u2 : Int) ∧ (u2 : Int) < (V.length : Int) := by omega
    have hmR : 0 ≤ (m : Int) ∧ (m : Int) < (R.length : Int) := by omega
    have hcert : ∀ W, LineV W base p (.slice (some ⟨mg, mo, none⟩) l.length mc) (.slice (some ⟨pg, 0, none⟩) (castP PN).length pcap) (.slice (some ⟨vg, 0, none⟩) V.length vcap) (.slice (some ⟨tg, 0, none⟩) ts.length tcap) (.slice (some ⟨rg, 0, none⟩) R.length rcap) ts (castP PN) V T R → MS W (.slice (some ⟨mg, mo, none⟩) l.length mc) l → _ := fun W h1 h2 => certified_any (castP PN) l u (by omega) (hTn u) (hTl u) W h1 h2
    have hMk := Lib.hid hM
    have HL := Lib.hid hL
    have HR0 := Lib.hid hR
    clear hlen hV hT hR
    clear hM hr0 hx hvb hvu hvu2 hu hu2
    obtain ⟨b1, b2, b3⟩ := id hL.blk
    have HB := Lib.hid hL.blk
    clear hL
    go_enter Try.func10, Try.ntmps10
    go_wp2_with fail
    clear b1 b2 b3 q0 q1
    refine wpH_start (by kernel_rfl) (fun hS => ?_)
    (refine wpH_pure 0 ?_ (oi := { dst := some 23, op := Op.move (Operand.tmp 0), type := 32, pos := "theorems.go:79", after := #[], guard := none }) rfl (by kernel_rfl) (by kernel_rfl) (by kernel_rfl) (by rfl) hS (fun _ _ _ h => h) ?_ ?_; rotate_left; focus (intro w; go_simp; try with_reducible rfl))
    try simp only [Act.put, List.setIfInBounds_toArray, List.set_cons_zero, List.set_cons_succ]
    (refine wpH_pure 1 ?_ (oi := { dst := some 24, op := Op.nilCheck (Operand.tmp 23), type := 0, pos := "theorems.go:79", after := #[{ on := 0, ground := Ground.data }], guard := none }) rfl (by kernel_rfl) (by kernel_rfl) (by kernel_rfl) (by rfl) hS (fun _ _ _ h => h) ?_ ?_; rotate_left; focus (intro w; go_simp; try with_reducible rfl))
    try simp only [Act.put, List.setIfInBounds_toArray, List.set_cons_zero, List.set_cons_succ]
    (refine wpH_pure 2 ?_ (oi := { dst := some 25, op := Op.fieldAddr 37 (Operand.tmp 24) 4, type := 0, pos := "theorems.go:79", after := #[{ on := 1, ground := Ground.data }], guard := none }) rfl (by kernel_rfl) (by kernel_rfl) (by kernel_rfl) (by rfl) hS (fun _ _ _ h => h) ?_ ?_; rotate_left; focus (intro w; go_simp; try with_reducible rfl))
    try simp only [Act.put, List.setIfInBounds_toArray, List.set_cons_zero, List.set_cons_succ]
    refine wpH_load 3 (.slice (some ⟨rg, 0, none⟩) R.length rcap) (oi := { dst := some 26, op := Op.load 35 (Operand.tmp 25), type := 35, pos := "theorems.go:79", after := #[{ on := 2, ground := Ground.data }], guard := none }) rfl (by kernel_rfl) (by kernel_rfl) (by kernel_rfl) (by rfl) hS (fun _ _ _ h => h) (fun w hb2 => (by have c := (HB.out.keep hb2).cell 4; go_simp; try rfl)) ?_
    try simp only [Act.put, List.setIfInBounds_toArray, List.set_cons_zero, List.set_cons_succ]
    (refine wpH_pure 4 ?_ (oi := { dst := some 27, op := Op.move (Operand.tmp 1), type := 3, pos := "theorems.go:79", after := #[], guard := none }) rfl (by kernel_rfl) (by kernel_rfl) (by kernel_rfl) (by rfl) hS (fun _ _ _ h => h) ?_ ?_; rotate_left; focus (intro w; go_simp; try with_reducible rfl))
    try simp only [Act.put, List.setIfInBounds_toArray, List.set_cons_zero, List.set_cons_succ]
    (refine wpH_pure 5 ?_ (oi := { dst := some 28, op := Op.indexAddr 35 (Operand.tmp 26) (Operand.tmp 27), type := 0, pos := "theorems.go:79", after := #[{ on := 3, ground := Ground.data }, { on := 4, ground := Ground.data }], guard := none }) rfl (by kernel_rfl) (by kernel_rfl) (by kernel_rfl) (by rfl) hS (fun _ _ _ h => h) ?_ ?_; rotate_left; focus (intro w; go_simp; try with_reducible rfl))
    try simp only [Act.put, List.setIfInBounds_toArray, List.set_cons_zero, List.set_cons_succ]
    refine wpH_load 6 (.agg #[.int .i64 (x1), .int .i64 (x2)]) (oi := { dst := some 29, op := Op.load 49 (Operand.tmp 28), type := 49, pos := "theorems.go:79", after := #[{ on := 5, ground := Ground.data }], guard := none }) rfl (by kernel_rfl) (by kernel_rfl) (by kernel_rfl) (by rfl) hS (fun _ _ _ h => h) (fun w hb2 => (by have c := (hb2.cell (p := ⟨rg, m * 2, none⟩) hrg).trans r0; have c' := (hb2.cell (p := ⟨rg, m * 2 + 1, none⟩) hrg).trans r1; go_simp; try rfl)) ?_
    try simp only [Act.put, List.setIfInBounds_toArray, List.set_cons_zero, List.set_cons_succ]
    (refine wpH_pure 7 ?_ (oi := { dst := some 30, op := Op.move (Operand.tmp 0), type := 32, pos := "theorems.go:79", after := #[], guard := none }) rfl (by kernel_rfl) (by kernel_rfl) (by kernel_rfl) (by rfl) hS (fun _ _ _ h => h) ?_ ?_; rotate_left; focus (intro w; go_simp; try with_reducible rfl))
    try simp only [Act.put, List.setIfInBounds_toArray, List.set_cons_zero, List.set_cons_succ]
    (refine wpH_pure 8 ?_ (oi := { dst := some 31, op := Op.nilCheck (Operand.tmp 30), type := 0, pos := "theorems.go:79", after := #[{ on := 7, ground := Ground.data }], guard := none }) rfl (by kernel_rfl) (by kernel_rfl) (by kernel_rfl) (by rfl) hS (fun _ _ _ h => h) ?_ ?_; rotate_left; focus (intro w; go_simp; try with_reducible rfl))
    try simp only [Act.put, List.setIfInBounds_toArray, List.set_cons_zero, List.set_cons_succ]
    (refine wpH_pure 9 ?_ (oi := { dst := some 32, op := Op.fieldAddr 37 (Operand.tmp 31) 2, type := 0, pos := "theorems.go:79", after := #[{ on := 8, ground := Ground.data }], guard := none }) rfl (by kernel_rfl) (by kernel_rfl) (by kernel_rfl) (by rfl) hS (fun _ _ _ h => h) ?_ ?_; rotate_left; focus (intro w; go_simp; try with_reducible rfl))
    try simp only [Act.put, List.setIfInBounds_toArray, List.set_cons_zero, List.set_cons_succ]
    refine wpH_load 10 (.slice (some ⟨vg, 0, none⟩) V.length vcap) (oi := { dst := some 33, op := Op.load 33 (Operand.tmp 32), type := 33, pos := "theorems.go:79", after := #[{ on := 9, ground := Ground.data }], guard := none }) rfl (by kernel_rfl) (by kernel_rfl) (by kernel_rfl) (by rfl) hS (fun _ _ _ h => h) (fun w hb2 => (by have c := (HB.out.keep hb2).cell 2; go_simp; try rfl)) ?_
    try simp only [Act.put, List.setIfInBounds_toArray, List.set_cons_zero, List.set_cons_succ]
    (refine wpH_pure 11 ?_ (oi := { dst := some 34, op := Op.move (Operand.tmp 2), type := 3, pos := "theorems.go:79", after := #[], guard := none }) rfl (by kernel_rfl) (by kernel_rfl) (by kernel_rfl) (by rfl) hS (fun _ _ _ h => h) ?_ ?_; rotate_left; focus (intro w; go_simp; try with_reducible rfl))
    try simp only [Act.put, List.setIfInBounds_toArray, List.set_cons_zero, List.set_cons_succ]
    (refine wpH_pure 12 ?_ (oi := { dst := some 35, op := Op.indexAddr 33 (Operand.tmp 33) (Operand.tmp 34), type := 0, pos := "theorems.go:79", after := #[{ on := 10, ground := Ground.data }, { on := 11, ground := Ground.data }], guard := none }) rfl (by kernel_rfl) (by kernel_rfl) (by kernel_rfl) (by rfl) hS (fun _ _ _ h => h) ?_ ?_; rotate_left; focus (intro w; go_simp; try with_reducible rfl))
    try simp only [Act.put, List.setIfInBounds_toArray, List.set_cons_zero, List.set_cons_succ]
    refine wpH_load 13 (.int .i64 (vb)) (oi := { dst := some 36, op := Op.load 3 (Operand.tmp 35), type := 3, pos := "theorems.go:79", after := #[{ on := 12, ground := Ground.data }], guard := none }) rfl (by kernel_rfl) (by kernel_rfl) (by kernel_rfl) (by rfl) hS (fun _ _ _ h => h) (fun w hb2 => (by have c := (hb2.cell (p := ⟨vg, b, none⟩) hvg).trans e0; go_simp; try rfl)) ?_
    try simp only [Act.put, List.setIfInBounds_toArray, List.set_cons_zero, List.set_cons_succ]
    (refine wpH_pure 14 ?_ (oi := { dst := some 37, op := Op.move (Operand.tmp 0), type := 32, pos := "theorems.go:79", after := #[], guard := none }) rfl (by kernel_rfl) (by kernel_rfl) (by kernel_rfl) (by rfl) hS (fun _ _ _ h => h) ?_ ?_; rotate_left; focus (intro w; go_simp; try with_reducible rfl))
    try simp only [Act.put, List.setIfInBounds_toArray, List.set_cons_zero, List.set_cons_succ]
    (refine wpH_pure 15 ?_ (oi := { dst := some 38, op := Op.nilCheck (Operand.tmp 37), type := 0, pos := "theorems.go:79", after := #[{ on := 14, ground := Ground.data }], guard := none }) rfl (by kernel_rfl) (by kernel_rfl) (by kernel_rfl) (by rfl) hS (fun _ _ _ h => h) ?_ ?_; rotate_left; focus (intro w; go_simp; try with_reducible rfl))
    try simp only [Act.put, List.setIfInBounds_toArray, List.set_cons_zero, List.set_cons_succ]
    (refine wpH_pure 16 ?_ (oi := { dst := some 39, op := Op.fieldAddr 37 (Operand.tmp 38) 2, type := 0, pos := "theorems.go:79", after := #[{ on := 15, ground := Ground.data }], guard := none }) rfl (by kernel_rfl) (by kernel_rfl) (by kernel_rfl) (by rfl) hS (fun _ _ _ h => h) ?_ ?_; rotate_left; focus (intro w; go_simp; try with_reducible rfl))
    try simp only [Act.put, List.setIfInBounds_toArray, List.set_cons_zero, List.set_cons_succ]
    refine wpH_load 17 (.slice (some ⟨vg, 0, none⟩) V.length vcap) (oi := { dst := some 40, op := Op.load 33 (Operand.tmp 39), type := 33, pos := "theorems.go:79", after := #[{ on := 16, ground := Ground.data }], guard := none }) rfl (by kernel_rfl) (by kernel_rfl) (by kernel_rfl) (by rfl) hS (fun _ _ _ h => h) (fun w hb2 => (by have c := (HB.out.keep hb2).cell 2; go_simp; try rfl)) ?_
    try simp only [Act.put, List.setIfInBounds_toArray, List.set_cons_zero, List.set_cons_succ]
    (refine wpH_pure 18 ?_ (oi := { dst := some 41, op := Op.move (Operand.tmp 8), type := 3, pos := "theorems.go:79", after := #[], guard := none }) rfl (by kernel_rfl) (by kernel_rfl) (by kernel_rfl) (by rfl) hS (fun _ _ _ h => h) ?_ ?_; rotate_left; focus (intro w; go_simp; try with_reducible rfl))
    try simp only [Act.put, List.setIfInBounds_toArray, List.set_cons_zero, List.set_cons_succ]
    (refine wpH_pure 19 ?_ (oi := { dst := some 42, op := Op.indexAddr 33 (Operand.tmp 40) (Operand.tmp 41), type := 0, pos := "theorems.go:79", after := #[{ on := 17, ground := Ground.data }, { on := 18, ground := Ground.data }], guard := none }) rfl (by kernel_rfl) (by kernel_rfl) (by kernel_rfl) (by rfl) hS (fun _ _ _ h => h) ?_ ?_; rotate_left; focus (intro w; go_simp; try with_reducible rfl))
    try simp only [Act.put, List.setIfInBounds_toArray, List.set_cons_zero, List.set_cons_succ]
    refine wpH_load 20 (.int .i64 (vu)) (oi := { dst := some 43, op := Op.load 3 (Operand.tmp 42), type := 3, pos := "theorems.go:79", after := #[{ on := 19, ground := Ground.data }], guard := none }) rfl (by kernel_rfl) (by kernel_rfl) (by kernel_rfl) (by rfl) hS (fun _ _ _ h => h) (fun w hb2 => (by have c := (hb2.cell (p := ⟨vg, u, none⟩) hvg).trans e1; go_simp; try rfl)) ?_
    try simp only [Act.put, List.setIfInBounds_toArray, List.set_cons_zero, List.set_cons_succ]
    (refine wpH_pure 21 ?_ (oi := { dst := some 44, op := Op.move (Operand.tmp 0), type := 32, pos := "theorems.go:79", after := #[], guard := none }) rfl (by kernel_rfl) (by kernel_rfl) (by kernel_rfl) (by rfl) hS (fun _ _ _ h => h) ?_ ?_; rotate_left; focus (intro w; go_simp; try with_reducible rfl))
    try simp only [Act.put, List.setIfInBounds_toArray, List.set_cons_zero, List.set_cons_succ]
    (refine wpH_pure 22 ?_ (oi := { dst := some 45, op := Op.nilCheck (Operand.tmp 44), type := 0, pos := "theorems.go:79", after := #[{ on := 21, ground := Ground.data }], guard := none }) rfl (by kernel_rfl) (by kernel_rfl) (by kernel_rfl) (by rfl) hS (fun _ _ _ h => h) ?_ ?_; rotate_left; focus (intro w; go_simp; try with_reducible rfl))
    try simp only [Act.put, List.setIfInBounds_toArray, List.set_cons_zero, List.set_cons_succ]
    (refine wpH_pure 23 ?_ (oi := { dst := some 46, op := Op.fieldAddr 37 (Operand.tmp 45) 2, type := 0, pos := "theorems.go:79", after := #[{ on := 22, ground := Ground.data }], guard := none }) rfl (by kernel_rfl) (by kernel_rfl) (by kernel_rfl) (by rfl) hS (fun _ _ _ h => h) ?_ ?_; rotate_left; focus (intro w; go_simp; try with_reducible rfl))
    try simp only [Act.put, List.setIfInBounds_toArray, List.set_cons_zero, List.set_cons_succ]
    refine wpH_load 24 (.slice (some ⟨vg, 0, none⟩) V.length vcap) (oi := { dst := some 47, op := Op.load 33 (Operand.tmp 46), type := 33, pos := "theorems.go:79", after := #[{ on := 23, ground := Ground.data }], guard := none }) rfl (by kernel_rfl) (by kernel_rfl) (by kernel_rfl) (by rfl) hS (fun _ _ _ h => h) (fun w hb2 => (by have c := (HB.out.keep hb2).cell 2; go_simp; try rfl)) ?_
    try simp only [Act.put, List.setIfInBounds_toArray, List.set_cons_zero, List.set_cons_succ]
    (refine wpH_pure 25 ?_ (oi := { dst := some 48, op := Op.move (Operand.tmp 0), type := 32, pos := "theorems.go:79", after := #[], guard := none }) rfl (by kernel_rfl) (by kernel_rfl) (by kernel_rfl) (by rfl) hS (fun _ _ _ h => h) ?_ ?_; rotate_left; focus (intro w; go_simp; try with_reducible rfl))
    try simp only [Act.put, List.setIfInBounds_toArray, List.set_cons_zero, List.set_cons_succ]
    (refine wpH_pure 26 ?_ (oi := { dst := some 49, op := Op.nilCheck (Operand.tmp 48), type := 0, pos := "theorems.go:79", after := #[{ on := 25, ground := Ground.data }], guard := none }) rfl (by kernel_rfl) (by kernel_rfl) (by kernel_rfl) (by rfl) hS (fun _ _ _ h => h) ?_ ?_; rotate_left; focus (intro w; go_simp; try with_reducible rfl))
    try simp only [Act.put, List.setIfInBounds_toArray, List.set_cons_zero, List.set_cons_succ]
    (refine wpH_pure 27 ?_ (oi := { dst := some 50, op := Op.fieldAddr 37 (Operand.tmp 49) 1, type := 0, pos := "theorems.go:79", after := #[{ on := 26, ground := Ground.data }], guard := none }) rfl (by kernel_rfl) (by kernel_rfl) (by kernel_rfl) (by rfl) hS (fun _ _ _ h => h) ?_ ?_; rotate_left; focus (intro w; go_simp; try with_reducible rfl))
    try simp only [Act.put, List.setIfInBounds_toArray, List.set_cons_zero, List.set_cons_succ]
    refine wpH_load 28 (.slice (some ⟨pg, 0, none⟩) (castP PN).length pcap) (oi := { dst := some 51, op := Op.load 33 (Operand.tmp 50), type := 33, pos := "theorems.go:79", after := #[{ on := 27, ground := Ground.data }], guard := none }) rfl (by kernel_rfl) (by kernel_rfl) (by kernel_rfl) (by rfl) hS (fun _ _ _ h => h) (fun w hb2 => (by have c := (HB.out.keep hb2).cell 1; go_simp; try rfl)) ?_
    try simp only [Act.put, List.setIfInBounds_toArray, List.set_cons_zero, List.set_cons_succ]
    (refine wpH_pure 29 ?_ (oi := { dst := some 52, op := Op.move (Operand.tmp 8), type := 3, pos := "theorems.go:79", after := #[], guard := none }) rfl (by kernel_rfl) (by kernel_rfl) (by kernel_rfl) (by rfl) hS (fun _ _ _ h => h) ?_ ?_; rotate_left; focus (intro w; go_simp; try with_reducible rfl))
    try simp only [Act.put, List.setIfInBounds_toArray, List.set_cons_zero, List.set_cons_succ]
    (refine wpH_pure 30 ?_ (oi := { dst := some 53, op := Op.indexAddr 33 (Operand.tmp 51) (Operand.tmp 52), type := 0, pos := "theorems.go:79", after := #[{ on := 28, ground := Ground.data }, { on := 29, ground := Ground.data }], guard := none }) rfl (by kernel_rfl) (by kernel_rfl) (by kernel_rfl) (by rfl) hS (fun _ _ _ h => h) ?_ ?_; rotate_left; focus (intro w; go_simp; try with_reducible rfl))
    try simp only [Act.put, List.setIfInBounds_toArray, List.set_cons_zero, List.set_cons_succ]
    refine wpH_load 31 (.int .i64 (u2)) (oi := { dst := some 54, op := Op.load 3 (Operand.tmp 53), type := 3, pos := "theorems.go:79", after := #[{ on := 30, ground := Ground.data }], guard := none }) rfl (by kernel_rfl) (by kernel_rfl) (by kernel_rfl) (by rfl) hS (fun _ _ _ h => h) (fun w hb2 => (by have c := (hb2.cell (p := ⟨pg, u, none⟩) hpg).trans c1; go_simp; try rfl)) ?_
    try simp only [Act.put, List.setIfInBounds_toArray, List.set_cons_zero, List.set_cons_succ]
    (refine wpH_pure 32 ?_ (oi := { dst := some 55, op := Op.indexAddr 33 (Operand.tmp 47) (Operand.tmp 54), type := 0, pos := "theorems.go:79", after := #[{ on := 24, ground := Ground.data }, { on := 31, ground := Ground.data }], guard := none }) rfl (by kernel_rfl) (by kernel_rfl) (by kernel_rfl) (by rfl) hS (fun _ _ _ h => h) ?_ ?_; rotate_left; focus (intro w; go_simp; try with_reducible rfl))
    try simp only [Act.put, List.setIfInBounds_toArray, List.set_cons_zero, List.set_cons_succ]
    refine wpH_load 33 (.int .i64 (vu2)) (oi := { dst := some 56, op := Op.load 3 (Operand.tmp 55), type := 3, pos := "theorems.go:79", after := #[{ on := 32, ground := Ground.data }], guard := none }) rfl (by kernel_rfl) (by kernel_rfl) (by kernel_rfl) (by rfl) hS (fun _ _ _ h => h) (fun w hb2 => (by have c := (hb2.cell (p := ⟨vg, u2, none⟩) hvg).trans e2; go_simp; try rfl)) ?_
    try simp only [Act.put, List.setIfInBounds_toArray, List.set_cons_zero, List.set_cons_succ]
    refine wpAnyH_all (rs := [34, 38]) (by kernel_rfl) (by simp) (fun jj hjj => ?_)
    simp only [List.mem_cons, List.not_mem_nil, or_false] at hjj
    rcases hjj with rfl | rfl
    refine wpO_call (oi := { dst := some 57, op := Op.call { callee := Callee.value (Operand.func 14), args := #[Operand.tmp 29, Operand.tmp 36, Operand.tmp 43, Operand.tmp 56], argTypes := #[49, 3, 3, 3] }, type := 50, pos := "theorems.go:79", after := #[{ on := 6, ground := Ground.data }, { on := 13, ground := Ground.data }, { on := 20, ground := Ground.data }, { on := 33, ground := Ground.data }], guard := none }) rfl (by rfl) (hvote _) ?_ ?_
    · (go_simp; try rfl)
    rintro e w' ⟨rfl, hbx⟩
    refine ⟨_, rfl, hS.trans (hbx.mono hS.size), ?_⟩
    replace hS := hS.trans (hbx.mono hS.size)
    try replace K9 := K9.keep hbx
    try simp only [Act.put, List.setIfInBounds_toArray, List.set_cons_zero, List.set_cons_succ]
    (refine wpH_pure 35 ?_ (oi := { dst := some 22, op := Op.move (Operand.tmp 57), type := 50, pos := "theorems.go:79", after := #[{ on := 34, ground := Ground.data }], guard := none }) rfl (by kernel_rfl) (by kernel_rfl) (by kernel_rfl) (by rfl) hS (fun _ _ _ h => h) ?_ ?_; rotate_left; focus (intro w; go_simp; try with_reducible rfl))
    try simp only [Act.put, List.setIfInBounds_toArray, List.set_cons_zero, List.set_cons_succ]
    (refine wpH_pure 36 ?_ (oi := { dst := some 58, op := Op.extract (Operand.tmp 22) 0, type := 49, pos := "theorems.go:79", after := #[{ on := 35, ground := Ground.data }], guard := none }) rfl (by kernel_rfl) (by kernel_rfl) (by kernel_rfl) (by rfl) hS (fun _ _ _ h => h) ?_ ?_; rotate_left; focus (intro w; go_simp; try with_reducible rfl))
    try simp only [Act.put, List.setIfInBounds_toArray, List.set_cons_zero, List.set_cons_succ]
    (refine wpH_pure 37 ?_ (oi := { dst := some 59, op := Op.extract (Operand.tmp 22) 1, type := 28, pos := "theorems.go:79", after := #[{ on := 35, ground := Ground.data }, { on := 39, ground := Ground.gcOnly Departure.lateStores }], guard := none }) rfl (by kernel_rfl) (by kernel_rfl) (by kernel_rfl) (by rfl) hS (fun _ _ _ h => h) ?_ ?_; rotate_left; focus (intro w; go_simp; try with_reducible rfl))
    try simp only [Act.put, List.setIfInBounds_toArray, List.set_cons_zero, List.set_cons_succ]
    refine wpH_op 38 (oi := { dst := some 9, op := Op.alloc 49, type := 0, pos := "theorems.go:79", after := #[], guard := none }) rfl (by kernel_rfl) (by rfl) ?_
    refine wp_allocK 49 rfl #[.int .i64 (0), .int .i64 (0)] (fun w => by go_simp; try rfl) (fun k w' hk K9 hbk => ?_)
    have hkb := Nat.le_trans hS.size hk
    clear hk
    refine hold_and (hS.trans (hbk.mono hS.size)) (fun hS => ?_)
    try simp only [Act.put, List.setIfInBounds_toArray, List.set_cons_zero, List.set_cons_succ]
    refine wpH_op 39 (oi := { dst := none, op := Op.store 49 (Operand.tmp 9) (Operand.tmp 58), type := 0, pos := "theorems.go:79", after := #[{ on := 38, ground := Ground.data }, { on := 36, ground := Ground.data }, { on := 34, ground := Ground.chain }, { on := 0, ground := Ground.phase }, { on := 1, ground := Ground.phase }, { on := 2, ground := Ground.phase }, { on := 3, ground := Ground.phase }, { on := 4, ground := Ground.phase }, { on := 5, ground := Ground.phase }, { on := 6, ground := Ground.phase }, { on := 7, ground := Ground.phase }, { on := 8, ground := Ground.phase }, { on := 9, ground := Ground.phase }, { on := 10, ground := Ground.phase }, { on := 11, ground := Ground.phase }, { on := 12, ground := Ground.phase }, { on := 13, ground := Ground.phase }, { on := 14, ground := Ground.phase }, { on := 15, ground := Ground.phase }, { on := 16, ground := Ground.phase }, { on := 17, ground := Ground.phase }, { on := 18, ground := Ground.phase }, { on := 19, ground := Ground.phase }, { on := 20, ground := Ground.phase }, { on := 21, ground := Ground.phase }, { on := 22, ground := Ground.phase }, { on := 23, ground := Ground.phase }, { on := 24, ground := Ground.phase }, { on := 25, ground := Ground.phase }, { on := 26, ground := Ground.phase }, { on := 27, ground := Ground.phase }, { on := 28, ground := Ground.phase }, { on := 29, ground := Ground.phase }, { on := 30, ground := Ground.phase }, { on := 31, ground := Ground.phase }, { on := 32, ground := Ground.phase }, { on := 33, ground := Ground.phase }, { on := 34, ground := Ground.phase }, { on := 35, ground := Ground.phase }, { on := 36, ground := Ground.phase }, { on := 37, ground := Ground.textOnly Departure.lateStores }, { on := 38, ground := Ground.phase }], guard := none }) rfl (by kernel_rfl) (by rfl) ?_
    obtain ⟨k1, k2, k3⟩ := id K9
    unfold Oper.wp
    go_simp
    replace K9 := (K9.set 0 (.int .i64 (f1))).set 1 (.int .i64 (f2))
    refine hold_and ((Below.setCell (p := ⟨k, 0, none⟩) hS hkb _).setCell (p := ⟨k, 1, none⟩) hkb _) (fun hS => ?_)
    try simp only [Act.put, List.setIfInBounds_toArray, List.set_cons_zero, List.set_cons_succ]
    (refine wpH_pure 40 ?_ (oi := { dst := some 10, op := Op.assign (Operand.tmp 59), type := 28, pos := "theorems.go:79", after := #[{ on := 37, ground := Ground.data }, { on := 39, ground := Ground.chain }, { on := 0, ground := Ground.phase }, { on := 1, ground := Ground.phase }, { on := 2, ground := Ground.phase }, { on := 3, ground := Ground.phase }, { on := 4, ground := Ground.phase }, { on := 5, ground := Ground.phase }, { on := 6, ground := Ground.phase }, { on := 7, ground := Ground.phase }, { on := 8, ground := Ground.phase }, { on := 9, ground := Ground.phase }, { on := 10, ground := Ground.phase }, { on := 11, ground := Ground.phase }, { on := 12, ground := Ground.phase }, { on := 13, ground := Ground.phase }, { on := 14, ground := Ground.phase }, { on := 15, ground := Ground.phase }, { on := 16, ground := Ground.phase }, { on := 17, ground := Ground.phase }, { on := 18, ground := Ground.phase }, { on := 19, ground := Ground.phase }, { on := 20, ground := Ground.phase }, { on := 21, ground := Ground.phase }, { on := 22, ground := Ground.phase }, { on := 23, ground := Ground.phase }, { on := 24, ground := Ground.phase }, { on := 25, ground := Ground.phase }, { on := 26, ground := Ground.phase }, { on := 27, ground := Ground.phase }, { on := 28, ground := Ground.phase }, { on := 29, ground := Ground.phase }, { on := 30, ground := Ground.phase }, { on := 31, ground := Ground.phase }, { on := 32, ground := Ground.phase }, { on := 33, ground := Ground.phase }, { on := 34, ground := Ground.phase }, { on := 35, ground := Ground.phase }, { on := 36, ground := Ground.phase }, { on := 37, ground := Ground.phase }, { on := 38, ground := Ground.phase }, { on := 39, ground := Ground.phase }], guard := none }) rfl (by kernel_rfl) (by kernel_rfl) (by kernel_rfl) (by rfl) hS (fun _ _ _ h => h) ?_ ?_; rotate_left; focus (intro w; go_simp; try with_reducible rfl))
    try simp only [Act.put, List.setIfInBounds_toArray, List.set_cons_zero, List.set_cons_succ]
    refine wpAnyH_done (by kernel_rfl) ?_ _
    rotate_left
    refine wpO_op (oi := { dst := some 9, op := Op.alloc 49, type := 0, pos := "theorems.go:79", after := #[], guard := none }) rfl (by rfl) ?_
    refine wp_allocK 49 rfl #[.int .i64 (0), .int .i64 (0)] (fun w => by go_simp; try rfl) (fun k w' hk K9 hbk => ?_)
    have hkb := Nat.le_trans hS.size hk
    clear hk
    refine hold_and (hS.trans (hbk.mono hS.size)) (fun hS => ?_)
    try simp only [Act.put, List.setIfInBounds_toArray, List.set_cons_zero, List.set_cons_succ]
    refine wpH_call 34 (oi := { dst := some 57, op := Op.call { callee := Callee.value (Operand.func 14), args := #[Operand.tmp 29, Operand.tmp 36, Operand.tmp 43, Operand.tmp 56], argTypes := #[49, 3, 3, 3] }, type := 50, pos := "theorems.go:79", after := #[{ on := 6, ground := Ground.data }, { on := 13, ground := Ground.data }, { on := 20, ground := Ground.data }, { on := 33, ground := Ground.data }], guard := none }) rfl (by kernel_rfl) (by rfl) (hvote _) ?_ ?_
    · (go_simp; try rfl)
    rintro e w' ⟨rfl, hbx⟩
    refine ⟨_, rfl, hS.trans (hbx.mono hS.size), ?_⟩
    replace hS := hS.trans (hbx.mono hS.size)
    try replace K9 := K9.keep hbx
    try simp only [Act.put, List.setIfInBounds_toArray, List.set_cons_zero, List.set_cons_succ]
    (refine wpH_pure 35 ?_ (oi := { dst := some 22, op := Op.move (Operand.tmp 57), type := 50, pos := "theorems.go:79", after := #[{ on := 34, ground := Ground.data }], guard := none }) rfl (by kernel_rfl) (by kernel_rfl) (by kernel_rfl) (by rfl) hS (fun _ _ _ h => h) ?_ ?_; rotate_left; focus (intro w; go_simp; try with_reducible rfl))
    try simp only [Act.put, List.setIfInBounds_toArray, List.set_cons_zero, List.set_cons_succ]
    (refine wpH_pure 36 ?_ (oi := { dst := some 58, op := Op.extract (Operand.tmp 22) 0, type := 49, pos := "theorems.go:79", after := #[{ on := 35, ground := Ground.data }], guard := none }) rfl (by kernel_rfl) (by kernel_rfl) (by kernel_rfl) (by rfl) hS (fun _ _ _ h => h) ?_ ?_; rotate_left; focus (intro w; go_simp; try with_reducible rfl))
    try simp only [Act.put, List.setIfInBounds_toArray, List.set_cons_zero, List.set_cons_succ]
    (refine wpH_pure 37 ?_ (oi := { dst := some 59, op := Op.extract (Operand.tmp 22) 1, type := 28, pos := "theorems.go:79", after := #[{ on := 35, ground := Ground.data }, { on := 39, ground := Ground.gcOnly Departure.lateStores }], guard := none }) rfl (by kernel_rfl) (by kernel_rfl) (by kernel_rfl) (by rfl) hS (fun _ _ _ h => h) ?_ ?_; rotate_left; focus (intro w; go_simp; try with_reducible rfl))
    try simp only [Act.put, List.setIfInBounds_toArray, List.set_cons_zero, List.set_cons_succ]
    refine wpH_op 39 (oi := { dst := none, op := Op.store 49 (Operand.tmp 9) (Operand.tmp 58), type := 0, pos := "theorems.go:79", after := #[{ on := 38, ground := Ground.data }, { on := 36, ground := Ground.data }, { on := 34, ground := Ground.chain }, { on := 0, ground := Ground.phase }, { on := 1, ground := Ground.phase }, { on := 2, ground := Ground.phase }, { on := 3, ground := Ground.phase }, { on := 4, ground := Ground.phase }, { on := 5, ground := Ground.phase }, { on := 6, ground := Ground.phase }, { on := 7, ground := Ground.phase }, { on := 8, ground := Ground.phase }, { on := 9, ground := Ground.phase }, { on := 10, ground := Ground.phase }, { on := 11, ground := Ground.phase }, { on := 12, ground := Ground.phase }, { on := 13, ground := Ground.phase }, { on := 14, ground := Ground.phase }, { on := 15, ground := Ground.phase }, { on := 16, ground := Ground.phase }, { on := 17, ground := Ground.phase }, { on := 18, ground := Ground.phase }, { on := 19, ground := Ground.phase }, { on := 20, ground := Ground.phase }, { on := 21, ground := Ground.phase }, { on := 22, ground := Ground.phase }, { on := 23, ground := Ground.phase }, { on := 24, ground := Ground.phase }, { on := 25, ground := Ground.phase }, { on := 26, ground := Ground.phase }, { on := 27, ground := Ground.phase }, { on := 28, ground := Ground.phase }, { on := 29, ground := Ground.phase }, { on := 30, ground := Ground.phase }, { on := 31, ground := Ground.phase }, { on := 32, ground := Ground.phase }, { on := 33, ground := Ground.phase }, { on := 34, ground := Ground.phase }, { on := 35, ground := Ground.phase }, { on := 36, ground := Ground.phase }, { on := 37, ground := Ground.textOnly Departure.lateStores }, { on := 38, ground := Ground.phase }], guard := none }) rfl (by kernel_rfl) (by rfl) ?_
    obtain ⟨k1, k2, k3⟩ := id K9
    unfold Oper.wp
    go_simp
    replace K9 := (K9.set 0 (.int .i64 (f1))).set 1 (.int .i64 (f2))
    refine hold_and ((Below.setCell (p := ⟨k, 0, none⟩) hS hkb _).setCell (p := ⟨k, 1, none⟩) hkb _) (fun hS => ?_)
    try simp only [Act.put, List.setIfInBounds_toArray, List.set_cons_zero, List.set_cons_succ]
    (refine wpH_pure 40 ?_ (oi := { dst := some 10, op := Op.assign (Operand.tmp 59), type := 28, pos := "theorems.go:79", after := #[{ on := 37, ground := Ground.data }, { on := 39, ground := Ground.chain }, { on := 0, ground := Ground.phase }, { on := 1, ground := Ground.phase }, { on := 2, ground := Ground.phase }, { on := 3, ground := Ground.phase }, { on := 4, ground := Ground.phase }, { on := 5, ground := Ground.phase }, { on := 6, ground := Ground.phase }, { on := 7, ground := Ground.phase }, { on := 8, ground := Ground.phase }, { on := 9, ground := Ground.phase }, { on := 10, ground := Ground.phase }, { on := 11, ground := Ground.phase }, { on := 12, ground := Ground.phase }, { on := 13, ground := Ground.phase }, { on := 14, ground := Ground.phase }, { on := 15, ground := Ground.phase }, { on := 16, ground := Ground.phase }, { on := 17, ground := Ground.phase }, { on := 18, ground := Ground.phase }, { on := 19, ground := Ground.phase }, { on := 20, ground := Ground.phase }, { on := 21, ground := Ground.phase }, { on := 22, ground := Ground.phase }, { on := 23, ground := Ground.phase }, { on := 24, ground := Ground.phase }, { on := 25, ground := Ground.phase }, { on := 26, ground := Ground.phase }, { on := 27, ground := Ground.phase }, { on := 28, ground := Ground.phase }, { on := 29, ground := Ground.phase }, { on := 30, ground := Ground.phase }, { on := 31, ground := Ground.phase }, { on := 32, ground := Ground.phase }, { on := 33, ground := Ground.phase }, { on := 34, ground := Ground.phase }, { on := 35, ground := Ground.phase }, { on := 36, ground := Ground.phase }, { on := 37, ground := Ground.phase }, { on := 38, ground := Ground.phase }, { on := 39, ground := Ground.phase }], guard := none }) rfl (by kernel_rfl) (by kernel_rfl) (by kernel_rfl) (by rfl) hS (fun _ _ _ h => h) ?_ ?_; rotate_left; focus (intro w; go_simp; try with_reducible rfl))
    try simp only [Act.put, List.setIfInBounds_toArray, List.set_cons_zero, List.set_cons_succ]
    refine wpAnyH_done (by kernel_rfl) ?_ _
    rotate_left
    all_goals replace HL := Lib.hid (HL.out.keep hS)
    all_goals have hb3 : Below base w _ := hS.mono hbase
    all_goals clear hS HB r0 r1 e0 e1 e2 c0 c1 hvote
    all_goals (
      have hws := Nat.le_trans hbase hb3.size
      have hrgk : ∀ x ∈ [rg], base ≤ x := fun x hx => by rw [List.mem_singleton] at hx; rw [hx]; exact hrgb
      have hkr : k ∉ [rg] := by rw [List.mem_singleton]; omega
      clear hkb
      by_cases hf3 : f3 = 0
      case neg =>
        have q3 : (f3 != 0) = true := by simpa using hf3
        go_wp2_with fail
        all_goals (refine bodyPost_ret (results_none rfl _ _ _) rfl ?_; rw [hvA, if_pos (.inl hf3)]; exact ⟨rfl, ⟨_, HL.out⟩, hb3⟩)
      case pos =>
        subst hf3
        have hce := hcert _ HL.out (hMk.out _ hb3)
        simp only [ne_eq, not_true_eq_false, false_or] at hvA
        generalize certA l T u = cb at *
        go_wp2_with fail
        refine hce.mono ?_
        rintro e w6 ⟨rfl, hb⟩
        have hb6 := hb3.trans (hb.mono hws)
        replace HL := Lib.hid (HL.out.keep hb)
        replace K9 := K9.keep hb
        have hw6 := Nat.le_trans hbase hb6.size
        clear hce hb hb3 hws
        cases cb
        case false =>
          go_wp2_with fail
          all_goals (refine bodyPost_ret (results_none rfl _ _ _) rfl ?_; rw [hvA, if_pos trivial]; exact ⟨rfl, ⟨_, HL.out⟩, hb6⟩)
        case true =>
          obtain ⟨r0, r1, r2⟩ := HL.out.ruleC m (by have := HR0.out; omega)
          have hpr : p ∉ [rg] := by
            rw [List.mem_singleton]
            intro e
            exact HL.out.np (.slice (some ⟨rg, 0, none⟩) R.length rcap) (by simp) (by rw [e]; rfl)
          go_wp2_with fail
          refine wpH_startM [rg] (by kernel_rfl) (fun hS => ?_)
          (refine wpH_pure 0 ?_ (oi := { dst := some 68, op := Op.move (Operand.tmp 0), type := 32, pos := "theorems.go:83", after := #[], guard := none }) rfl (by kernel_rfl) (by kernel_rfl) (by kernel_rfl) (by rfl) hS (fun _ _ _ h => h) ?_ ?_; rotate_left; focus (intro w; go_simp; try with_reducible rfl))
          try simp only [Act.put, List.setIfInBounds_toArray, List.set_cons_zero, List.set_cons_succ]
          (refine wpH_pure 1 ?_ (oi := { dst := some 69, op := Op.nilCheck (Operand.tmp 68), type := 0, pos := "theorems.go:83", after := #[{ on := 0, ground := Ground.data }], guard := none }) rfl (by kernel_rfl) (by kernel_rfl) (by kernel_rfl) (by rfl) hS (fun _ _ _ h => h) ?_ ?_; rotate_left; focus (intro w; go_simp; try with_reducible rfl))
          try simp only [Act.put, List.setIfInBounds_toArray, List.set_cons_zero, List.set_cons_succ]
          (refine wpH_pure 2 ?_ (oi := { dst := some 70, op := Op.fieldAddr 37 (Operand.tmp 69) 4, type := 0, pos := "theorems.go:83", after := #[{ on := 1, ground := Ground.data }], guard := none }) rfl (by kernel_rfl) (by kernel_rfl) (by kernel_rfl) (by rfl) hS (fun _ _ _ h => h) ?_ ?_; rotate_left; focus (intro w; go_simp; try with_reducible rfl))
          try simp only [Act.put, List.setIfInBounds_toArray, List.set_cons_zero, List.set_cons_succ]
          refine wpH_load 3 (.slice (some ⟨rg, 0, none⟩) R.length rcap) (oi := { dst := some 71, op := Op.load 35 (Operand.tmp 70), type := 35, pos := "theorems.go:83", after := #[{ on := 2, ground := Ground.data }], guard := none }) rfl (by kernel_rfl) (by kernel_rfl) (by kernel_rfl) (by rfl) hS (fun _ _ _ h => h) (fun w hb2 => (by have c := (HL.out.blk.mod hb2 hpr).cell 4; go_simp; try rfl)) ?_
          try simp only [Act.put, List.setIfInBounds_toArray, List.set_cons_zero, List.set_cons_succ]
          (refine wpH_pure 4 ?_ (oi := { dst := some 72, op := Op.move (Operand.tmp 1), type := 3, pos := "theorems.go:83", after := #[], guard := none }) rfl (by kernel_rfl) (by kernel_rfl) (by kernel_rfl) (by rfl) hS (fun _ _ _ h => h) ?_ ?_; rotate_left; focus (intro w; go_simp; try with_reducible rfl))
          try simp only [Act.put, List.setIfInBounds_toArray, List.set_cons_zero, List.set_cons_succ]
          refine wpH_load 5 (.agg #[.int .i64 (f1), .int .i64 (f2)]) (oi := { dst := some 73, op := Op.load 49 (Operand.tmp 9), type := 49, pos := "theorems.go:83", after := #[], guard := none }) rfl (by kernel_rfl) (by kernel_rfl) (by kernel_rfl) (by rfl) hS (fun _ _ _ h => h) (fun w hb2 => (by have c := (K9.mod hb2 hkr).cell 0; have c' := (K9.mod hb2 hkr).cell 1; go_simp; try rfl)) ?_
          try simp only [Act.put, List.setIfInBounds_toArray, List.set_cons_zero, List.set_cons_succ]
          (refine wpH_pure 6 ?_ (oi := { dst := some 74, op := Op.indexAddr 35 (Operand.tmp 71) (Operand.tmp 72), type := 0, pos := "theorems.go:83", after := #[{ on := 3, ground := Ground.data }, { on := 4, ground := Ground.data }, { on := 0, ground := Ground.phase }, { on := 1, ground := Ground.phase }, { on := 2, ground := Ground.phase }, { on := 3, ground := Ground.phase }, { on := 4, ground := Ground.phase }, { on := 5, ground := Ground.phase }], guard := none }) rfl (by kernel_rfl) (by kernel_rfl) (by kernel_rfl) (by rfl) hS (fun _ _ _ h => h) ?_ ?_; rotate_left; focus (intro w; go_simp; try with_reducible rfl))
          try simp only [Act.put, List.setIfInBounds_toArray, List.set_cons_zero, List.set_cons_succ]
          refine wpH_op 7 (oi := { dst := none, op := Op.store 49 (Operand.tmp 74) (Operand.tmp 73), type := 0, pos := "theorems.go:83", after := #[{ on := 6, ground := Ground.data }, { on := 5, ground := Ground.data }, { on := 0, ground := Ground.phase }, { on := 1, ground := Ground.phase }, { on := 2, ground := Ground.phase }, { on := 3, ground := Ground.phase }, { on := 4, ground := Ground.phase }, { on := 5, ground := Ground.phase }], guard := none }) rfl (by kernel_rfl) (by rfl) ?_
          unfold Oper.wp
          go_simp
          refine hold_and ((Mod.setCell hS (p := ⟨rg, m * 2, none⟩) (.inl (by simp)) _).setCell (p := ⟨rg, m * 2 + 1, none⟩) (.inl (by simp)) _) (fun hS => ?_)
          try simp only [Act.put, List.setIfInBounds_toArray, List.set_cons_zero, List.set_cons_succ]
          refine wpAnyH_done (by kernel_rfl) ?_ _
          have hL5 := LineV.keep (HL.out.rule_set (x := f1) (y := f2) (m := m) (by have := HR0.out; omega)) (Below.refl _ _).drew
          have hb7 := Below.mod hb6 hS hw6 hrgk
          generalize World.drew (World.setCell (World.setCell _ _ _) _ _) = w7 at *
          replace HL := Lib.hid hL5
          have hw7 := Nat.le_trans hbase hb7.size
          have hnmV : voteA l PN V false m b (T, R) = (T.set b (Lb ++ [nmA l m]), R.set m (f1, f2)) := by rw [hvA, if_neg (by simp)]
          clear hL5 hS hb6 hw6 r0 r1 r2 K9 hvA
          go_wp2_with fail
          have hmp : p ∉ tg :: tb.ownBlock.toList := by
            intro hx
            rcases List.mem_cons.1 hx with e | hx
            · exact HL.out.np (.slice (some ⟨tg, 0, none⟩) ts.length tcap) (by simp) (by rw [e]; rfl)
            · exact HL.out.np _ (.tail _ (.tail _ (.tail _ (.tail _ (ts_mem hbts))))) (by rw [← HTB.out]; simpa using hx)
          have hmb : ∀ x ∈ tg :: tb.ownBlock.toList, base ≤ x := by
            intro x hx
            rcases List.mem_cons.1 hx with e | hx
            · rw [e]; exact htg
            · exact (HL.out.each b hbT).own x (by rw [← HTB.out]; simpa using hx)
          have hvot : w7.cell? ⟨tg, b, none⟩ = some tb := by
            rw [HTB.out]
            obtain ⟨g2, c2, e2, _, q2, _⟩ := HL.out.vot b hbT
            injection e2 with e2 _ _
            injection e2 with e2
            injection e2 with e2 _ _
            rw [e2]; exact q2
          have hbw : base ≤ w7.heap.size := hw7
          refine wpH_startM (tg :: tb.ownBlock.toList) (by kernel_rfl) (fun hS => ?_)
          have hLr := HL.out.keep ((Below.refl _ _).drew)
          replace hvot : (World.drew _).cell? ⟨tg, b, none⟩ = _ := hvot
          (refine wpH_pure 0 ?_ (oi := { dst := some 75, op := Op.move (Operand.tmp 0), type := 32, pos := "theorems.go:85", after := #[], guard := none }) rfl (by kernel_rfl) (by kernel_rfl) (by kernel_rfl) (by rfl) hS (fun _ _ _ h => h) ?_ ?_; rotate_left; focus (intro w; go_simp; try with_reducible rfl))
          try simp only [Act.put, List.setIfInBounds_toArray, List.set_cons_zero, List.set_cons_succ]
          (refine wpH_pure 1 ?_ (oi := { dst := some 76, op := Op.nilCheck (Operand.tmp 75), type := 0, pos := "theorems.go:85", after := #[{ on := 0, ground := Ground.data }], guard := none }) rfl (by kernel_rfl) (by kernel_rfl) (by kernel_rfl) (by rfl) hS (fun _ _ _ h => h) ?_ ?_; rotate_left; focus (intro w; go_simp; try with_reducible rfl))
          try simp only [Act.put, List.setIfInBounds_toArray, List.set_cons_zero, List.set_cons_succ]
          (refine wpH_pure 2 ?_ (oi := { dst := some 77, op := Op.fieldAddr 37 (Operand.tmp 76) 3, type := 0, pos := "theorems.go:85", after := #[{ on := 1, ground := Ground.data }], guard := none }) rfl (by kernel_rfl) (by kernel_rfl) (by kernel_rfl) (by rfl) hS (fun _ _ _ h => h) ?_ ?_; rotate_left; focus (intro w; go_simp; try with_reducible rfl))
          try simp only [Act.put, List.setIfInBounds_toArray, List.set_cons_zero, List.set_cons_succ]
          refine wpH_load 3 (.slice (some ⟨tg, 0, none⟩) ts.length tcap) (oi := { dst := some 78, op := Op.load 34 (Operand.tmp 77), type := 34, pos := "theorems.go:85", after := #[{ on := 2, ground := Ground.data }], guard := none }) rfl (by kernel_rfl) (by kernel_rfl) (by kernel_rfl) (by rfl) hS (fun _ _ _ h => h) (fun w hb3 => (by have c := (HL.out.blk.mod hb3 hmp).cell 3; go_simp; try rfl)) ?_
          try simp only [Act.put, List.setIfInBounds_toArray, List.set_cons_zero, List.set_cons_succ]
          (refine wpH_pure 4 ?_ (oi := { dst := some 79, op := Op.move (Operand.tmp 2), type := 3, pos := "theorems.go:85", after := #[], guard := none }) rfl (by kernel_rfl) (by kernel_rfl) (by kernel_rfl) (by rfl) hS (fun _ _ _ h => h) ?_ ?_; rotate_left; focus (intro w; go_simp; try with_reducible rfl))
          try simp only [Act.put, List.setIfInBounds_toArray, List.set_cons_zero, List.set_cons_succ]
          (refine wpH_pure 5 ?_ (oi := { dst := some 80, op := Op.move (Operand.tmp 0), type := 32, pos := "theorems.go:85", after := #[], guard := none }) rfl (by kernel_rfl) (by kernel_rfl) (by kernel_rfl) (by rfl) hS (fun _ _ _ h => h) ?_ ?_; rotate_left; focus (intro w; go_simp; try with_reducible rfl))
          try simp only [Act.put, List.setIfInBounds_toArray, List.set_cons_zero, List.set_cons_succ]
          (refine wpH_pure 6 ?_ (oi := { dst := some 81, op := Op.nilCheck (Operand.tmp 80), type := 0, pos := "theorems.go:85", after := #[{ on := 5, ground := Ground.data }], guard := none }) rfl (by kernel_rfl) (by kernel_rfl) (by kernel_rfl) (by rfl) hS (fun _ _ _ h => h) ?_ ?_; rotate_left; focus (intro w; go_simp; try with_reducible rfl))
          try simp only [Act.put, List.setIfInBounds_toArray, List.set_cons_zero, List.set_cons_succ]
          (refine wpH_pure 7 ?_ (oi := { dst := some 82, op := Op.fieldAddr 37 (Operand.tmp 81) 3, type := 0, pos := "theorems.go:85", after := #[{ on := 6, ground := Ground.data }], guard := none }) rfl (by kernel_rfl) (by kernel_rfl) (by kernel_rfl) (by rfl) hS (fun _ _ _ h => h) ?_ ?_; rotate_left; focus (intro w; go_simp; try with_reducible rfl))
          try simp only [Act.put, List.setIfInBounds_toArray, List.set_cons_zero, List.set_cons_succ]
          refine wpH_load 8 (.slice (some ⟨tg, 0, none⟩) ts.length tcap) (oi := { dst := some 83, op := Op.load 34 (Operand.tmp 82), type := 34, pos := "theorems.go:85", after := #[{ on := 7, ground := Ground.data }], guard := none }) rfl (by kernel_rfl) (by kernel_rfl) (by kernel_rfl) (by rfl) hS (fun _ _ _ h => h) (fun w hb3 => (by have c := (HL.out.blk.mod hb3 hmp).cell 3; go_simp; try rfl)) ?_
          try simp only [Act.put, List.setIfInBounds_toArray, List.set_cons_zero, List.set_cons_succ]
          (refine wpH_pure 9 ?_ (oi := { dst := some 84, op := Op.move (Operand.tmp 2), type := 3, pos := "theorems.go:85", after := #[], guard := none }) rfl (by kernel_rfl) (by kernel_rfl) (by kernel_rfl) (by rfl) hS (fun _ _ _ h => h) ?_ ?_; rotate_left; focus (intro w; go_simp; try with_reducible rfl))
          try simp only [Act.put, List.setIfInBounds_toArray, List.set_cons_zero, List.set_cons_succ]
          (refine wpH_pure 10 ?_ (oi := { dst := some 85, op := Op.indexAddr 34 (Operand.tmp 83) (Operand.tmp 84), type := 0, pos := "theorems.go:85", after := #[{ on := 8, ground := Ground.data }, { on := 9, ground := Ground.data }], guard := none }) rfl (by kernel_rfl) (by kernel_rfl) (by kernel_rfl) (by rfl) hS (fun _ _ _ h => h) ?_ ?_; rotate_left; focus (intro w; go_simp; try with_reducible rfl))
          try simp only [Act.put, List.setIfInBounds_toArray, List.set_cons_zero, List.set_cons_succ]
          (refine wpH_pure 12 ?_ (oi := { dst := some 87, op := Op.move (Operand.tmp 0), type := 32, pos := "theorems.go:85", after := #[], guard := none }) rfl (by kernel_rfl) (by kernel_rfl) (by kernel_rfl) (by rfl) hS (fun _ _ _ h => h) ?_ ?_; rotate_left; focus (intro w; go_simp; try with_reducible rfl))
          try simp only [Act.put, List.setIfInBounds_toArray, List.set_cons_zero, List.set_cons_succ]
          (refine wpH_pure 13 ?_ (oi := { dst := some 88, op := Op.nilCheck (Operand.tmp 87), type := 0, pos := "theorems.go:85", after := #[{ on := 12, ground := Ground.data }], guard := none }) rfl (by kernel_rfl) (by kernel_rfl) (by kernel_rfl) (by rfl) hS (fun _ _ _ h => h) ?_ ?_; rotate_left; focus (intro w; go_simp; try with_reducible rfl))
          try simp only [Act.put, List.setIfInBounds_toArray, List.set_cons_zero, List.set_cons_succ]
          (refine wpH_pure 14 ?_ (oi := { dst := some 89, op := Op.fieldAddr 37 (Operand.tmp 88) 0, type := 0, pos := "theorems.go:85", after := #[{ on := 13, ground := Ground.data }], guard := none }) rfl (by kernel_rfl) (by kernel_rfl) (by kernel_rfl) (by rfl) hS (fun _ _ _ h => h) ?_ ?_; rotate_left; focus (intro w; go_simp; try with_reducible rfl))
          try simp only [Act.put, List.setIfInBounds_toArray, List.set_cons_zero, List.set_cons_succ]
          refine wpH_load 15 (.slice (some ⟨mg, mo, none⟩) l.length mc) (oi := { dst := some 90, op := Op.load 22 (Operand.tmp 89), type := 22, pos := "theorems.go:85", after := #[{ on := 14, ground := Ground.data }], guard := none }) rfl (by kernel_rfl) (by kernel_rfl) (by kernel_rfl) (by rfl) hS (fun _ _ _ h => h) (fun w hb3 => (by have c := (HL.out.blk.mod hb3 hmp).cell 0; go_simp; try rfl)) ?_
          try simp only [Act.put, List.setIfInBounds_toArray, List.set_cons_zero, List.set_cons_succ]
          (refine wpH_pure 16 ?_ (oi := { dst := some 91, op := Op.move (Operand.tmp 1), type := 3, pos := "theorems.go:85", after := #[], guard := none }) rfl (by kernel_rfl) (by kernel_rfl) (by kernel_rfl) (by rfl) hS (fun _ _ _ h => h) ?_ ?_; rotate_left; focus (intro w; go_simp; try with_reducible rfl))
          try simp only [Act.put, List.setIfInBounds_toArray, List.set_cons_zero, List.set_cons_succ]
          (refine wpH_pure 17 ?_ (oi := { dst := some 92, op := Op.indexAddr 22 (Operand.tmp 90) (Operand.tmp 91), type := 0, pos := "theorems.go:85", after := #[{ on := 15, ground := Ground.data }, { on := 16, ground := Ground.data }], guard := none }) rfl (by kernel_rfl) (by kernel_rfl) (by kernel_rfl) (by rfl) hS (fun _ _ _ h => h) ?_ ?_; rotate_left; focus (intro w; go_simp; try with_reducible rfl))
          try simp only [Act.put, List.setIfInBounds_toArray, List.set_cons_zero, List.set_cons_succ]
          (refine wpH_pure 18 ?_ (oi := { dst := some 93, op := Op.fieldAddr 42 (Operand.tmp 92) 0, type := 0, pos := "theorems.go:85", after := #[{ on := 17, ground := Ground.data }], guard := none }) rfl (by kernel_rfl) (by kernel_rfl) (by kernel_rfl) (by rfl) hS (fun _ _ _ h => h) ?_ ?_; rotate_left; focus (intro w; go_simp; try with_reducible rfl))
          try simp only [Act.put, List.setIfInBounds_toArray, List.set_cons_zero, List.set_cons_succ]
          refine wpH_load 19 (.string ⟨List.toArray (nmA l m)⟩) (oi := { dst := some 94, op := Op.load 9 (Operand.tmp 93), type := 9, pos := "theorems.go:85", after := #[{ on := 18, ground := Ground.data }], guard := none }) rfl (by kernel_rfl) (by kernel_rfl) (by kernel_rfl) (by rfl) hS (fun _ _ _ h => h) (fun w hb3 => (by have c := hnm w (Below.mod hb7 hb3 hbw hmb); go_simp; try rfl)) ?_
          try simp only [Act.put, List.setIfInBounds_toArray, List.set_cons_zero, List.set_cons_succ]
          refine wpAnyH_all (rs := [11, 20]) (by kernel_rfl) (by simp) (fun jj hjj => ?_)
          simp only [List.mem_cons, List.not_mem_nil, or_false] at hjj
          rcases hjj with rfl | rfl
          refine wpO_op (oi := { dst := some 86, op := Op.load 23 (Operand.tmp 85), type := 23, pos := "theorems.go:85", after := #[{ on := 10, ground := Ground.data }], guard := none }) rfl (by rfl) ?_
          refine wp_loads tb (by go_simp; try rfl) ?_
          refine ⟨hS, ?_⟩
          try simp only [Act.put, List.setIfInBounds_toArray, List.set_cons_zero, List.set_cons_succ]
          refine wpH_op 20 (oi := { dst := some 95, op := Op.buildSlice 23 1 #[(0, Operand.tmp 94)], type := 23, pos := "theorems.go:85", after := #[{ on := 19, ground := Ground.data }], guard := none }) rfl (by kernel_rfl) (by rfl) ?_
          unfold Oper.wp
          go_simp
          refine hold_and (Mod.alloc hS _) (fun hS => ?_)
          replace hvot : (World.drew (World.alloc w7 (.cells #[.string ⟨List.toArray (nmA l m)⟩] 9))).cell? ⟨tg, b, none⟩ = some tb := (World.cell?_alloc_past (.cells #[.string ⟨List.toArray (nmA l m)⟩] 9) tg b hLr.vot_lt).trans hvot
          replace hLr := hLr.keep (Below.allocS (Below.refl _ _) (.cells #[.string ⟨List.toArray (nmA l m)⟩] 9))
          try simp only [Act.put, List.setIfInBounds_toArray, List.set_cons_zero, List.set_cons_succ]
          refine wpH_op 21 (oi := { dst := some 96, op := Op.call { callee := Callee.builtin Builtin.append, args := #[Operand.tmp 86, Operand.tmp 95], argTypes := #[23, 23] }, type := 23, pos := "theorems.go:85", after := #[{ on := 11, ground := Ground.data }, { on := 20, ground := Ground.data }], guard := none }) rfl (by kernel_rfl) (by rfl) ?_
          refine wp_app1 (.tmp 86) (.tmp 95) 23 9 (.string ⟨#[]⟩) 16 Try.underlying23 infoStr rfl (by decide) rfl base _ _ (.string ⟨List.toArray (nmA l m)⟩) _ rfl (hEb _ _ hLr) _ rfl (by simp) rfl (by omega) (Nat.le_trans hbw hS.size) (fun t' w' hr hg ho => ?_)
          obtain ⟨ta, tc, rfl⟩ := row_form hr
          obtain ⟨k1, k2⟩ := hLr.vot_after hbT (HTB.out ▸ hg)
          rw [← HTB.out] at k1
          refine hold_and (Mod.call hS (Mod.of_grown hg) (fun x hx => .inl (.tail _ hx))) (fun hS => ?_)
          try simp only [Act.put, List.setIfInBounds_toArray, List.set_cons_zero, List.set_cons_succ]
          (refine wpH_pure 22 ?_ (oi := { dst := some 97, op := Op.indexAddr 34 (Operand.tmp 78) (Operand.tmp 79), type := 0, pos := "theorems.go:85", after := #[{ on := 3, ground := Ground.data }, { on := 4, ground := Ground.data }, { on := 0, ground := Ground.phase }, { on := 1, ground := Ground.phase }, { on := 2, ground := Ground.phase }, { on := 3, ground := Ground.phase }, { on := 4, ground := Ground.phase }, { on := 5, ground := Ground.phase }, { on := 6, ground := Ground.phase }, { on := 7, ground := Ground.phase }, { on := 8, ground := Ground.phase }, { on := 9, ground := Ground.phase }, { on := 10, ground := Ground.phase }, { on := 11, ground := Ground.phase }, { on := 12, ground := Ground.phase }, { on := 13, ground := Ground.phase }, { on := 14, ground := Ground.phase }, { on := 15, ground := Ground.phase }, { on := 16, ground := Ground.phase }, { on := 17, ground := Ground.phase }, { on := 18, ground := Ground.phase }, { on := 19, ground := Ground.phase }, { on := 20, ground := Ground.phase }, { on := 21, ground := Ground.phase }], guard := none }) rfl (by kernel_rfl) (by kernel_rfl) (by kernel_rfl) (by rfl) hS (fun _ _ _ h => h) ?_ ?_; rotate_left; focus (intro w; go_simp; try with_reducible rfl))
          try simp only [Act.put, List.setIfInBounds_toArray, List.set_cons_zero, List.set_cons_succ]
          refine wpH_op 23 (oi := { dst := none, op := Op.store 23 (Operand.tmp 97) (Operand.tmp 96), type := 0, pos := "theorems.go:85", after := #[{ on := 22, ground := Ground.data }, { on := 21, ground := Ground.data }, { on := 21, ground := Ground.chain }, { on := 0, ground := Ground.phase }, { on := 1, ground := Ground.phase }, { on := 2, ground := Ground.phase }, { on := 3, ground := Ground.phase }, { on := 4, ground := Ground.phase }, { on := 5, ground := Ground.phase }, { on := 6, ground := Ground.phase }, { on := 7, ground := Ground.phase }, { on := 8, ground := Ground.phase }, { on := 9, ground := Ground.phase }, { on := 10, ground := Ground.phase }, { on := 11, ground := Ground.phase }, { on := 12, ground := Ground.phase }, { on := 13, ground := Ground.phase }, { on := 14, ground := Ground.phase }, { on := 15, ground := Ground.phase }, { on := 16, ground := Ground.phase }, { on := 17, ground := Ground.phase }, { on := 18, ground := Ground.phase }, { on := 19, ground := Ground.phase }, { on := 20, ground := Ground.phase }, { on := 21, ground := Ground.phase }], guard := none }) rfl (by kernel_rfl) (by rfl) ?_
          unfold Oper.wp
          go_simp
          refine hold_and (Mod.setCell hS (p := ⟨tg, b, none⟩) (.inl (by simp)) _) (fun hS => ?_)
          try simp only [Act.put, List.setIfInBounds_toArray, List.set_cons_zero, List.set_cons_succ]
          refine wpAnyH_done (by kernel_rfl) ?_ _
          rotate_left
          refine wpO_op (oi := { dst := some 95, op := Op.buildSlice 23 1 #[(0, Operand.tmp 94)], type := 23, pos := "theorems.go:85", after := #[{ on := 19, ground := Ground.data }], guard := none }) rfl (by rfl) ?_
          unfold Oper.wp
          go_simp
          refine hold_and (Mod.alloc hS _) (fun hS => ?_)
          replace hvot : (World.drew (World.alloc w7 (.cells #[.string ⟨List.toArray (nmA l m)⟩] 9))).cell? ⟨tg, b, none⟩ = some tb := (World.cell?_alloc_past (.cells #[.string ⟨List.toArray (nmA l m)⟩] 9) tg b hLr.vot_lt).trans hvot
          replace hLr := hLr.keep (Below.allocS (Below.refl _ _) (.cells #[.string ⟨List.toArray (nmA l m)⟩] 9))
          try simp only [Act.put, List.setIfInBounds_toArray, List.set_cons_zero, List.set_cons_succ]
          refine wpH_op 11 (oi := { dst := some 86, op := Op.load 23 (Operand.tmp 85), type := 23, pos := "theorems.go:85", after := #[{ on := 10, ground := Ground.data }], guard := none }) rfl (by kernel_rfl) (by rfl) ?_
          refine wp_loads tb (by go_simp; try rfl) ?_
          refine ⟨hS, ?_⟩
          try simp only [Act.put, List.setIfInBounds_toArray, List.set_cons_zero, List.set_cons_succ]
          refine wpH_op 21 (oi := { dst := some 96, op := Op.call { callee := Callee.builtin Builtin.append, args := #[Operand.tmp 86, Operand.tmp 95], argTypes := #[23, 23] }, type := 23, pos := "theorems.go:85", after := #[{ on := 11, ground := Ground.data }, { on := 20, ground := Ground.data }], guard := none }) rfl (by kernel_rfl) (by rfl) ?_
          refine wp_app1 (.tmp 86) (.tmp 95) 23 9 (.string ⟨#[]⟩) 16 Try.underlying23 infoStr rfl (by decide) rfl base _ _ (.string ⟨List.toArray (nmA l m)⟩) _ rfl (hEb _ _ hLr) _ rfl (by simp) rfl (by omega) (Nat.le_trans hbw hS.size) (fun t' w' hr hg ho => ?_)
          obtain ⟨ta, tc, rfl⟩ := row_form hr
          obtain ⟨k1, k2⟩ := hLr.vot_after hbT (HTB.out ▸ hg)
          rw [← HTB.out] at k1
          refine hold_and (Mod.call hS (Mod.of_grown hg) (fun x hx => .inl (.tail _ hx))) (fun hS => ?_)
          try simp only [Act.put, List.setIfInBounds_toArray, List.set_cons_zero, List.set_cons_succ]
          (refine wpH_pure 22 ?_ (oi := { dst := some 97, op := Op.indexAddr 34 (Operand.tmp 78) (Operand.tmp 79), type := 0, pos := "theorems.go:85", after := #[{ on := 3, ground := Ground.data }, { on := 4, ground := Ground.data }, { on := 0, ground := Ground.phase }, { on := 1, ground := Ground.phase }, { on := 2, ground := Ground.phase }, { on := 3, ground := Ground.phase }, { on := 4, ground := Ground.phase }, { on := 5, ground := Ground.phase }, { on := 6, ground := Ground.phase }, { on := 7, ground := Ground.phase }, { on := 8, ground := Ground.phase }, { on := 9, ground := Ground.phase }, { on := 10, ground := Ground.phase }, { on := 11, ground := Ground.phase }, { on := 12, ground := Ground.phase }, { on := 13, ground := Ground.phase }, { on := 14, ground := Ground.phase }, { on := 15, ground := Ground.phase }, { on := 16, ground := Ground.phase }, { on := 17, ground := Ground.phase }, { on := 18, ground := Ground.phase }, { on := 19, ground := Ground.phase }, { on := 20, ground := Ground.phase }, { on := 21, ground := Ground.phase }], guard := none }) rfl (by kernel_rfl) (by kernel_rfl) (by kernel_rfl) (by rfl) hS (fun _ _ _ h => h) ?_ ?_; rotate_left; focus (intro w; go_simp; try with_reducible rfl))
          try simp only [Act.put, List.setIfInBounds_toArray, List.set_cons_zero, List.set_cons_succ]
          refine wpH_op 23 (oi := { dst := none, op := Op.store 23 (Operand.tmp 97) (Operand.tmp 96), type := 0, pos := "theorems.go:85", after := #[{ on := 22, ground := Ground.data }, { on := 21, ground := Ground.data }, { on := 21, ground := Ground.chain }, { on := 0, ground := Ground.phase }, { on := 1, ground := Ground.phase }, { on := 2, ground := Ground.phase }, { on := 3, ground := Ground.phase }, { on := 4, ground := Ground.phase }, { on := 5, ground := Ground.phase }, { on := 6, ground := Ground.phase }, { on := 7, ground := Ground.phase }, { on := 8, ground := Ground.phase }, { on := 9, ground := Ground.phase }, { on := 10, ground := Ground.phase }, { on := 11, ground := Ground.phase }, { on := 12, ground := Ground.phase }, { on := 13, ground := Ground.phase }, { on := 14, ground := Ground.phase }, { on := 15, ground := Ground.phase }, { on := 16, ground := Ground.phase }, { on := 17, ground := Ground.phase }, { on := 18, ground := Ground.phase }, { on := 19, ground := Ground.phase }, { on := 20, ground := Ground.phase }, { on := 21, ground := Ground.phase }], guard := none }) rfl (by kernel_rfl) (by rfl) ?_
          unfold Oper.wp
          go_simp
          refine hold_and (Mod.setCell hS (p := ⟨tg, b, none⟩) (.inl (by simp)) _) (fun hS => ?_)
          try simp only [Act.put, List.setIfInBounds_toArray, List.set_cons_zero, List.set_cons_succ]
          refine wpAnyH_done (by kernel_rfl) ?_ _
          rotate_left
          all_goals go_wp2_with fail
          all_goals (first | refine bodyPost_ret (results_none rfl _ _ _) rfl ?_ | refine bodyPost_end (results_none rfl _ _ _) rfl ?_)
          all_goals (rw [hnmV]; exact ⟨rfl, ⟨_, by (have q := hLr.voter_app hbT (L' := Lb ++ [nmA l m]) (by (unfold SRow; rw [List.length_append, sv_app]; exact hr)) (HTB.out ▸ hg) (HTB.out ▸ ho); exact q)⟩, Below.mod hb7 hS hbw hmb⟩))
end
end Go.Proofs.Ytbnjhfkmdejeaaa
