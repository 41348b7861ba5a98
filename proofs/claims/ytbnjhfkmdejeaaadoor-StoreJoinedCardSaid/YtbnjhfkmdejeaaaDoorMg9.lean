/- Sign, Back. -/
import Derived.Test.YtbnjhfkmdejeaaaDoorMg2
import Derived.Test.YtbnjhfkmdejeaaaDoorMg8
set_option linter.unnecessarySimpa false

/- The table of signatures: a step that signs, whatever is there. -/
set_option linter.unusedSimpArgs false
set_option linter.unusedVariables false
namespace Go.Proofs.YtbnjhfkmdejeaaaDoor
open Go.RowKit Go.WideMaps Go.Maps Pl

theorem idxOf_get : ∀ (r : List (Bs × Bs)) (x : Bs × Bs), x ∈ r → idxOf r x < r.length ∧ r.reverse[idxOf r x]? = some x
  | y :: r, x, h => by
    unfold idxOf
    by_cases e : x = y
    · subst e
      rw [if_pos rfl]
      refine ⟨by simp, ?_⟩
      rw [List.reverse_cons, List.getElem?_append_right (by simp)]
      simp
    · rw [if_neg e]
      have hx : x ∈ r := by
        rcases List.mem_cons.1 h with h | h
        · exact absurd h e
        · exact h
      obtain ⟨h1, h2⟩ := idxOf_get r x hx
      refine ⟨by simp; omega, ?_⟩
      rw [List.reverse_cons, List.getElem?_append_left (by simpa using h1)]
      exact h2
/-- Where a signature stands. -/
def placeG (L : List Sg) (who mark : Bs) : Nat := idxOf (L.map keyOfS).reverse (who, mark)
theorem placeG_get (L : List Sg) (who mark : Bs) (h : isIn L who mark = true) : placeG L who mark < L.length ∧ (L.getD (placeG L who mark) sg0').1 = who ∧ (L.getD (placeG L who mark) sg0').2.1 = mark := by
  have hm : (who, mark) ∈ (L.map keyOfS).reverse := by
    unfold isIn at h
    simpa using h
  obtain ⟨h1, h2⟩ := idxOf_get _ _ hm
  rw [List.reverse_reverse] at h2
  unfold placeG
  generalize idxOf (L.map keyOfS).reverse (who, mark) = i at *
  have hi : i < L.length := by simpa using h1
  rw [List.getElem?_map, List.getElem?_eq_getElem hi] at h2
  simp only [Option.map_some, Option.some.injEq, keyOfS, Prod.mk.injEq] at h2
  rw [List.getD_eq_getElem?_getD, List.getElem?_eq_getElem hi]
  exact ⟨hi, h2.1, h2.2⟩
theorem gv_set : ∀ (L : List Sg) (i : Nat) (b : Bool), i < L.length → (gv L).set (i * 3 + 2) (.bool b) = gv (L.set i ((L.getD i sg0').1, (L.getD i sg0').2.1, b))
  | x :: r, 0, b, _ => rfl
  | x :: r, i + 1, b, h => by
    have ih := gv_set r i b (by simpa using h)
    rw [show (i + 1) * 3 + 2 = i * 3 + 2 + 1 + 1 + 1 from by omega]
    simp only [gv, List.set_cons_succ, List.getD_cons_succ]
    rw [ih]
theorem take_set {α : Type} : ∀ (l : List α) (n k : Nat) (x : α), (l.set k x).take n = (l.take n).set k x
  | [], n, k, x => by simp
  | y :: l, 0, k, x => by simp
  | y :: l, n + 1, 0, x => by simp
  | y :: l, n + 1, k + 1, x => by simp [take_set l n k x]
theorem wp_loads {P : Program} {o : Oper} {a : Act} {w : World} {K : Act → World → Prop} {Q : Exit → Act → World → Prop} (u : Value) (hv : (execOp a.eval o).run P w = .ok (.value u) w) (h : K (a.put o.dst u) w) : o.wp P a w K Q := by
  unfold Oper.wp
  rw [hv]
  exact h
theorem heap_setCell {w : World} {g o : Nat} {cur : Array Value} {e : TypeId} {fr : Nat × Nat} {v : Value} (h : w.heap[g]? = some (.cells cur e fr)) : (w.setCell ⟨g, o, none⟩ v).heap[g]? = some (.cells (cur.setIfInBounds o v) e fr) := by
  unfold World.setCell
  simp [Array.getElem?_modify, h]
theorem GRow.set {w : World} {base : Nat} {v : Value} {L : List Sg} (h : GRow w base v L) {i : Nat} (hi : i < L.length) (b : Bool) :
    ∃ g cap, v = .slice (some ⟨g, 0, none⟩) L.length cap ∧ base ≤ g ∧ g < w.heap.size ∧ w.cell? ⟨g, i * 3 + 2, none⟩ = some (.bool (L.getD i sg0').2.2) ∧ w.frozen? ⟨g, i * 3 + 2, none⟩ = false ∧
      GRow (w.setCell ⟨g, i * 3 + 2, none⟩ (.bool b)) base v (L.set i ((L.getD i sg0').1, (L.getD i sg0').2.1, b)) := by
  rcases h.cells with ⟨_, rfl⟩ | ⟨g, cap, hv, h1, h2, h3, h4, h5, h6⟩
  · simp at hi
  · have hc := (h5 i hi).2.2
    rw [Nat.zero_add] at hc
    refine ⟨g, cap, hv, h1, h2, hc, h6 _, ?_⟩
    rcases h.2 with ⟨h0, _⟩ | ⟨g', cap', cur, hv', q1, q2, q3, q4, q5, q6⟩
    · rw [hv] at h0; cases h0
    · rw [hv] at hv'
      injection hv' with e1 _ e3
      injection e1 with e1
      injection e1 with e1 _ _
      subst e1 e3
      refine ⟨by rw [gv_len], .inr ⟨g, cap, _, by rw [hv, List.length_set], q1, heap_setCell q2, by rw [List.length_set]; exact q3, q4, by simpa using q5, ?_⟩⟩
      rw [Array.toList_setIfInBounds, List.length_set, ← gv_set L i b hi, ← q6, take_set]

theorem GRow.setA {w : World} {base g n cap : Nat} {L : List Sg} (h : GRow w base (.slice (some ⟨g, 0, none⟩) n cap) L) {i : Nat} (hi : i < L.length) (b : Bool) :
    w.cell? ⟨g, i * 3 + 2, none⟩ = some (.bool (L.getD i sg0').2.2) ∧ w.frozen? ⟨g, i * 3 + 2, none⟩ = false ∧
      GRow (w.setCell ⟨g, i * 3 + 2, none⟩ (.bool b)) base (.slice (some ⟨g, 0, none⟩) n cap) (L.set i ((L.getD i sg0').1, (L.getD i sg0').2.1, b)) := by
  obtain ⟨g', cap', hv, _, _, h3, h4, h5⟩ := h.set hi b
  have hg : g = g' := by injection hv with e _ _; injection e with e; injection e
  subst hg
  exact ⟨h3, h4, h5⟩

/-- What is there behind a step that signs, and the code. -/
def signL (L : List Sg) (who mark : Bs) (honest : Bool) : List Sg × Int :=
  if who = [] ∨ 6 < who.length then (L, 1) else if mark.length ≠ 32 then (L, 3)
  else if isIn L who mark then (L.set (placeG L who mark) (who, mark, (L.getD (placeG L who mark) sg0').2.2 && honest), 0)
  else if 1024 ≤ L.length then (L, 2) else (L ++ [(who, mark, honest)], 0)

theorem keys_set (L : List Sg) (who mark : Bs) (b : Bool) (h : isIn L who mark = true) : (L.set (placeG L who mark) (who, mark, b)).map keyOfS = L.map keyOfS := by
  obtain ⟨h1, h2, h3⟩ := placeG_get L who mark h
  rw [List.map_set]
  have : keyOfS (who, mark, b) = (L.map keyOfS)[placeG L who mark]'(by simpa using h1) := by
    rw [List.getD_eq_getElem?_getD, List.getElem?_eq_getElem h1] at h2 h3
    simp only [Option.getD_some] at h2 h3
    simp only [List.getElem_map, keyOfS]
    rw [h2, h3]
  rw [this, List.set_getElem_self]

set_option maxRecDepth 100000 in
set_option maxHeartbeats 400000 in
theorem osign_any (base p : Nat) (L : List Sg) (who mark : Bs) (honest : Bool) (hwl : who.length ≤ 9223372036854775807) (hml : mark.length ≤ 9223372036854775807) (w : World) (hT : Tab w base p L) :
    Calls Tryd.prog 26 #[.pointer (some ⟨p, 0, none⟩), .string ⟨List.toArray (who)⟩, .string ⟨List.toArray (mark)⟩, .bool honest] w fun e w' => e = .returned (.int .i64 ((signL L who mark honest).2)) ∧ Tab w' base p (signL L who mark honest).1 ∧ Below base w w' := by
  by_cases hw0 : who = []
  · rw [show signL L who mark honest = (L, 1) from by simp [signL, hw0]]
    subst hw0
    go_enter Tryd.func26, Tryd.ntmps26
    go_wp2_with fail
    all_goals (go_ret; exact ⟨rfl, hT, Below.refl _ _⟩)
  · have e1 : (who == []) = false := by simpa using hw0
    by_cases hw6 : 6 < who.length
    · rw [show signL L who mark honest = (L, 1) from by simp [signL, hw6]]
      have e2 : decide ((6 : Int) < (who.length : Int)) = true := by simp; omega
      go_enter Tryd.func26, Tryd.ntmps26
      go_wp2_with fail
      all_goals (go_ret; exact ⟨rfl, hT, Below.refl _ _⟩)
    · have e2 : decide ((6 : Int) < (who.length : Int)) = false := by simp; omega
      by_cases hm : mark.length = 32
      · by_cases hin : isIn L who mark = true
        · obtain ⟨i1, i2, i3⟩ := placeG_get L who mark hin
          rw [show signL L who mark honest = (L.set (placeG L who mark) (who, mark, (L.getD (placeG L who mark) sg0').2.2 && honest), 0) from by simp [signL, hw0, hw6, hm, hin]]
          have hks := keys_set L who mark ((L.getD (placeG L who mark) sg0').2.2 && honest) hin
          obtain ⟨b, sv, h1, h2, B, h4, h5, h6⟩ := hT
          obtain ⟨g, cap, rfl, hg1, hg2, _, _, _⟩ := h5.set i1 true
          have hset : ∀ w' b', Below w.heap.size w w' → w'.cell? ⟨g, placeG L who mark * 3 + 2, none⟩ = some (.bool (L.getD (placeG L who mark) sg0').2.2) ∧ w'.frozen? ⟨g, placeG L who mark * 3 + 2, none⟩ = false ∧
              GRow (w'.setCell ⟨g, placeG L who mark * 3 + 2, none⟩ (.bool b')) (p + 1) (.slice (some ⟨g, 0, none⟩) L.length cap) (L.set (placeG L who mark) (who, mark, b')) := by
            intro w' b' hb
            have := (h5.keep hb).setA i1 b'
            rw [i2, i3] at this
            exact this
          have hlook : ∀ w', Below w.heap.size w w' → (Instr.lookup 91 (.map (some b)) (.agg #[.string ⟨List.toArray (who)⟩, .string ⟨List.toArray (mark)⟩, .bool false]) true).run Tryd.prog w' = .ok (.tuple #[.int .i64 ((placeG L who mark : Int)), .bool (isIn L who mark)]) w' := fun w' hb => Tab.look (base := base) (p := p) (ownsMap_keep h4 hb) h6 (by omega) (by omega)
          rw [hin] at hlook
          have HKS := Lib.hid hks
          generalize (L.getD (placeG L who mark) sg0').2.2 = old at *
          generalize placeG L who mark = i at *
          have e3 : ((mark.length : Int) != 32) = false := by simp; omega
          have HM := Lib.hid hm
          have HI := Lib.hid i2
          clear hm i2 i3 hks
          have hbase : base ≤ w.heap.size := by have := B.lt; omega
          go_enter Tryd.func26, Tryd.ntmps26
          go_wp2_with fail
          refine wpH_start (by kernel_rfl) (fun hS => ?_)
          (refine wpH_pure 0 ?_ (oi := { dst := some 22, op := Op.move (Operand.tmp 0), type := 31, pos := "oracle.go:30", after := #[], guard := none }) rfl (by kernel_rfl) (by kernel_rfl) (by kernel_rfl) (by rfl) hS (fun _ _ _ h => h) ?_ ?_; rotate_left; focus (intro w; go_simp; try with_reducible rfl))
          try simp only [Act.put, List.setIfInBounds_toArray, List.set_cons_zero, List.set_cons_succ]
          (refine wpH_pure 1 ?_ (oi := { dst := some 23, op := Op.nilCheck (Operand.tmp 22), type := 0, pos := "oracle.go:30", after := #[{ on := 0, ground := Ground.data }], guard := none }) rfl (by kernel_rfl) (by kernel_rfl) (by kernel_rfl) (by rfl) hS (fun _ _ _ h => h) ?_ ?_; rotate_left; focus (intro w; go_simp; try with_reducible rfl))
          try simp only [Act.put, List.setIfInBounds_toArray, List.set_cons_zero, List.set_cons_succ]
          (refine wpH_pure 2 ?_ (oi := { dst := some 24, op := Op.fieldAddr 93 (Operand.tmp 23) 0, type := 0, pos := "oracle.go:30", after := #[{ on := 1, ground := Ground.data }], guard := none }) rfl (by kernel_rfl) (by kernel_rfl) (by kernel_rfl) (by rfl) hS (fun _ _ _ h => h) ?_ ?_; rotate_left; focus (intro w; go_simp; try with_reducible rfl))
          try simp only [Act.put, List.setIfInBounds_toArray, List.set_cons_zero, List.set_cons_succ]
          refine wpH_load 3 (.map (some b)) (oi := { dst := some 25, op := Op.load 91 (Operand.tmp 24), type := 91, pos := "oracle.go:30", after := #[{ on := 2, ground := Ground.data }], guard := none }) rfl (by kernel_rfl) (by kernel_rfl) (by kernel_rfl) (by rfl) hS (fun _ _ _ h => h) (fun w hb => (by have c := (B.keep hb).cell 0; go_simp; try rfl)) ?_
          try simp only [Act.put, List.setIfInBounds_toArray, List.set_cons_zero, List.set_cons_succ]
          (refine wpH_pure 4 ?_ (oi := { dst := some 26, op := Op.move (Operand.tmp 1), type := 9, pos := "oracle.go:30", after := #[], guard := none }) rfl (by kernel_rfl) (by kernel_rfl) (by kernel_rfl) (by rfl) hS (fun _ _ _ h => h) ?_ ?_; rotate_left; focus (intro w; go_simp; try with_reducible rfl))
          try simp only [Act.put, List.setIfInBounds_toArray, List.set_cons_zero, List.set_cons_succ]
          (refine wpH_pure 5 ?_ (oi := { dst := some 27, op := Op.move (Operand.tmp 2), type := 9, pos := "oracle.go:30", after := #[], guard := none }) rfl (by kernel_rfl) (by kernel_rfl) (by kernel_rfl) (by rfl) hS (fun _ _ _ h => h) ?_ ?_; rotate_left; focus (intro w; go_simp; try with_reducible rfl))
          try simp only [Act.put, List.setIfInBounds_toArray, List.set_cons_zero, List.set_cons_succ]
          refine wpH_call 6 (oi := { dst := some 28, op := Op.call { callee := Callee.value (Operand.func 55), args := #[Operand.tmp 26, Operand.tmp 27], argTypes := #[9, 9] }, type := 95, pos := "oracle.go:30", after := #[{ on := 4, ground := Ground.data }, { on := 5, ground := Ground.data }], guard := none }) rfl (by kernel_rfl) (by rfl) (okey_any who mark _) ?_ ?_
          · (go_simp; try rfl)
          rintro e w' ⟨rfl, hbx⟩
          refine ⟨_, rfl, hS.trans (hbx.mono hS.size), ?_⟩
          replace hS := hS.trans (hbx.mono hS.size)
          try simp only [Act.put, List.setIfInBounds_toArray, List.set_cons_zero, List.set_cons_succ]
          refine wpH_load 7 (.tuple #[.int .i64 (i), .bool true]) (oi := { dst := some 29, op := Op.lookup 91 (Operand.tmp 25) (Operand.tmp 28) true, type := 90, pos := "oracle.go:30", after := #[{ on := 3, ground := Ground.data }, { on := 6, ground := Ground.data }], guard := none }) rfl (by kernel_rfl) (by kernel_rfl) (by kernel_rfl) (by rfl) hS (fun _ _ _ h => h) (fun w hb => (by have c := hlook w hb; go_simp; try exact c)) ?_
          try simp only [Act.put, List.setIfInBounds_toArray, List.set_cons_zero, List.set_cons_succ]
          (refine wpH_pure 8 ?_ (oi := { dst := some 21, op := Op.move (Operand.tmp 29), type := 90, pos := "oracle.go:30", after := #[{ on := 7, ground := Ground.data }], guard := none }) rfl (by kernel_rfl) (by kernel_rfl) (by kernel_rfl) (by rfl) hS (fun _ _ _ h => h) ?_ ?_; rotate_left; focus (intro w; go_simp; try with_reducible rfl))
          try simp only [Act.put, List.setIfInBounds_toArray, List.set_cons_zero, List.set_cons_succ]
          (refine wpH_pure 9 ?_ (oi := { dst := some 30, op := Op.extract (Operand.tmp 21) 0, type := 3, pos := "oracle.go:30", after := #[{ on := 8, ground := Ground.data }], guard := none }) rfl (by kernel_rfl) (by kernel_rfl) (by kernel_rfl) (by rfl) hS (fun _ _ _ h => h) ?_ ?_; rotate_left; focus (intro w; go_simp; try with_reducible rfl))
          try simp only [Act.put, List.setIfInBounds_toArray, List.set_cons_zero, List.set_cons_succ]
          (refine wpH_pure 10 ?_ (oi := { dst := some 31, op := Op.extract (Operand.tmp 21) 1, type := 4, pos := "oracle.go:30", after := #[{ on := 8, ground := Ground.data }, { on := 11, ground := Ground.gcOnly Departure.lateStores }], guard := none }) rfl (by kernel_rfl) (by kernel_rfl) (by kernel_rfl) (by rfl) hS (fun _ _ _ h => h) ?_ ?_; rotate_left; focus (intro w; go_simp; try with_reducible rfl))
          try simp only [Act.put, List.setIfInBounds_toArray, List.set_cons_zero, List.set_cons_succ]
          (refine wpH_pure 11 ?_ (oi := { dst := some 9, op := Op.assign (Operand.tmp 30), type := 3, pos := "oracle.go:30", after := #[{ on := 9, ground := Ground.data }, { on := 6, ground := Ground.chain }, { on := 0, ground := Ground.phase }, { on := 1, ground := Ground.phase }, { on := 2, ground := Ground.phase }, { on := 3, ground := Ground.phase }, { on := 4, ground := Ground.phase }, { on := 5, ground := Ground.phase }, { on := 6, ground := Ground.phase }, { on := 7, ground := Ground.phase }, { on := 8, ground := Ground.phase }, { on := 9, ground := Ground.phase }, { on := 10, ground := Ground.textOnly Departure.lateStores }], guard := none }) rfl (by kernel_rfl) (by kernel_rfl) (by kernel_rfl) (by rfl) hS (fun _ _ _ h => h) ?_ ?_; rotate_left; focus (intro w; go_simp; try with_reducible rfl))
          try simp only [Act.put, List.setIfInBounds_toArray, List.set_cons_zero, List.set_cons_succ]
          (refine wpH_pure 12 ?_ (oi := { dst := some 10, op := Op.assign (Operand.tmp 31), type := 4, pos := "oracle.go:30", after := #[{ on := 10, ground := Ground.data }, { on := 11, ground := Ground.chain }, { on := 0, ground := Ground.phase }, { on := 1, ground := Ground.phase }, { on := 2, ground := Ground.phase }, { on := 3, ground := Ground.phase }, { on := 4, ground := Ground.phase }, { on := 5, ground := Ground.phase }, { on := 6, ground := Ground.phase }, { on := 7, ground := Ground.phase }, { on := 8, ground := Ground.phase }, { on := 9, ground := Ground.phase }, { on := 10, ground := Ground.phase }, { on := 11, ground := Ground.phase }], guard := none }) rfl (by kernel_rfl) (by kernel_rfl) (by kernel_rfl) (by rfl) hS (fun _ _ _ h => h) ?_ ?_; rotate_left; focus (intro w; go_simp; try with_reducible rfl))
          try simp only [Act.put, List.setIfInBounds_toArray, List.set_cons_zero, List.set_cons_succ]
          refine wpAnyH_done (by kernel_rfl) ?_ _
          have B2 := B.keep hS
          obtain ⟨hgc, hgf, _⟩ := hset _ true hS
          have hgr := fun b' => (hset _ b' hS).2.2
          have hown2 := ownsMap_keep h4 hS
          obtain ⟨b1, b2, b3⟩ := id B2
          have hbq := hS.mono hbase
          go_wp2_with fail
          have hbx1 : 0 ≤ (i : Int) ∧ (i : Int) < (L.length : Int) := by omega
          have hqs := hS.size
          obtain ⟨wq, hq⟩ := Below.nm hS
          subst hq
          clear hS hlook hset h4 h5 B
          have hgf2 : wq.drew.frozen? ⟨g, i * 3 + 2, none⟩ = false := hgf
          cases old
          all_goals
            refine wpH_startM [g] (by kernel_rfl) (fun hS => ?_)
            (refine wpH_pure 0 ?_ (oi := { dst := some 33, op := Op.move (Operand.tmp 0), type := 31, pos := "oracle.go:31", after := #[], guard := none }) rfl (by kernel_rfl) (by kernel_rfl) (by kernel_rfl) (by rfl) hS (fun _ _ _ h => h) ?_ ?_; rotate_left; focus (intro w; go_simp; try with_reducible rfl))
            try simp only [Act.put, List.setIfInBounds_toArray, List.set_cons_zero, List.set_cons_succ]
            (refine wpH_pure 1 ?_ (oi := { dst := some 34, op := Op.nilCheck (Operand.tmp 33), type := 0, pos := "oracle.go:31", after := #[{ on := 0, ground := Ground.data }], guard := none }) rfl (by kernel_rfl) (by kernel_rfl) (by kernel_rfl) (by rfl) hS (fun _ _ _ h => h) ?_ ?_; rotate_left; focus (intro w; go_simp; try with_reducible rfl))
            try simp only [Act.put, List.setIfInBounds_toArray, List.set_cons_zero, List.set_cons_succ]
            (refine wpH_pure 2 ?_ (oi := { dst := some 35, op := Op.fieldAddr 93 (Operand.tmp 34) 1, type := 0, pos := "oracle.go:31", after := #[{ on := 1, ground := Ground.data }], guard := none }) rfl (by kernel_rfl) (by kernel_rfl) (by kernel_rfl) (by rfl) hS (fun _ _ _ h => h) ?_ ?_; rotate_left; focus (intro w; go_simp; try with_reducible rfl))
            try simp only [Act.put, List.setIfInBounds_toArray, List.set_cons_zero, List.set_cons_succ]
            refine wpH_load 3 (.slice (some ⟨g, 0, none⟩) L.length cap) (oi := { dst := some 36, op := Op.load 32 (Operand.tmp 35), type := 32, pos := "oracle.go:31", after := #[{ on := 2, ground := Ground.data }], guard := none }) rfl (by kernel_rfl) (by kernel_rfl) (by kernel_rfl) (by rfl) hS (fun _ _ _ h => h) (fun w hb => (by have c := (B2.mod hb (by simp; omega)).cell 1; go_simp; try rfl)) ?_
            try simp only [Act.put, List.setIfInBounds_toArray, List.set_cons_zero, List.set_cons_succ]
            (refine wpH_pure 4 ?_ (oi := { dst := some 37, op := Op.move (Operand.tmp 9), type := 3, pos := "oracle.go:31", after := #[], guard := none }) rfl (by kernel_rfl) (by kernel_rfl) (by kernel_rfl) (by rfl) hS (fun _ _ _ h => h) ?_ ?_; rotate_left; focus (intro w; go_simp; try with_reducible rfl))
            try simp only [Act.put, List.setIfInBounds_toArray, List.set_cons_zero, List.set_cons_succ]
            (refine wpH_pure 5 ?_ (oi := { dst := some 38, op := Op.move (Operand.tmp 0), type := 31, pos := "oracle.go:31", after := #[], guard := none }) rfl (by kernel_rfl) (by kernel_rfl) (by kernel_rfl) (by rfl) hS (fun _ _ _ h => h) ?_ ?_; rotate_left; focus (intro w; go_simp; try with_reducible rfl))
            try simp only [Act.put, List.setIfInBounds_toArray, List.set_cons_zero, List.set_cons_succ]
            (refine wpH_pure 6 ?_ (oi := { dst := some 39, op := Op.nilCheck (Operand.tmp 38), type := 0, pos := "oracle.go:31", after := #[{ on := 5, ground := Ground.data }], guard := none }) rfl (by kernel_rfl) (by kernel_rfl) (by kernel_rfl) (by rfl) hS (fun _ _ _ h => h) ?_ ?_; rotate_left; focus (intro w; go_simp; try with_reducible rfl))
            try simp only [Act.put, List.setIfInBounds_toArray, List.set_cons_zero, List.set_cons_succ]
            (refine wpH_pure 7 ?_ (oi := { dst := some 40, op := Op.fieldAddr 93 (Operand.tmp 39) 1, type := 0, pos := "oracle.go:31", after := #[{ on := 6, ground := Ground.data }], guard := none }) rfl (by kernel_rfl) (by kernel_rfl) (by kernel_rfl) (by rfl) hS (fun _ _ _ h => h) ?_ ?_; rotate_left; focus (intro w; go_simp; try with_reducible rfl))
            try simp only [Act.put, List.setIfInBounds_toArray, List.set_cons_zero, List.set_cons_succ]
            refine wpH_load 8 (.slice (some ⟨g, 0, none⟩) L.length cap) (oi := { dst := some 41, op := Op.load 32 (Operand.tmp 40), type := 32, pos := "oracle.go:31", after := #[{ on := 7, ground := Ground.data }], guard := none }) rfl (by kernel_rfl) (by kernel_rfl) (by kernel_rfl) (by rfl) hS (fun _ _ _ h => h) (fun w hb => (by have c := (B2.mod hb (by simp; omega)).cell 1; go_simp; try rfl)) ?_
            try simp only [Act.put, List.setIfInBounds_toArray, List.set_cons_zero, List.set_cons_succ]
            (refine wpH_pure 9 ?_ (oi := { dst := some 42, op := Op.move (Operand.tmp 9), type := 3, pos := "oracle.go:31", after := #[], guard := none }) rfl (by kernel_rfl) (by kernel_rfl) (by kernel_rfl) (by rfl) hS (fun _ _ _ h => h) ?_ ?_; rotate_left; focus (intro w; go_simp; try with_reducible rfl))
            try simp only [Act.put, List.setIfInBounds_toArray, List.set_cons_zero, List.set_cons_succ]
            (refine wpH_pure 10 ?_ (oi := { dst := some 43, op := Op.indexAddr 32 (Operand.tmp 41) (Operand.tmp 42), type := 0, pos := "oracle.go:31", after := #[{ on := 8, ground := Ground.data }, { on := 9, ground := Ground.data }], guard := none }) rfl (by kernel_rfl) (by kernel_rfl) (by kernel_rfl) (by rfl) hS (fun _ _ _ h => h) ?_ ?_; rotate_left; focus (intro w; go_simp; try with_reducible rfl))
            try simp only [Act.put, List.setIfInBounds_toArray, List.set_cons_zero, List.set_cons_succ]
            (refine wpH_pure 11 ?_ (oi := { dst := some 44, op := Op.fieldAddr 95 (Operand.tmp 43) 2, type := 0, pos := "oracle.go:31", after := #[{ on := 10, ground := Ground.data }], guard := none }) rfl (by kernel_rfl) (by kernel_rfl) (by kernel_rfl) (by rfl) hS (fun _ _ _ h => h) ?_ ?_; rotate_left; focus (intro w; go_simp; try with_reducible rfl))
            try simp only [Act.put, List.setIfInBounds_toArray, List.set_cons_zero, List.set_cons_succ]
            refine wpH_op 12 (oi := { dst := some 45, op := Op.load 4 (Operand.tmp 44), type := 4, pos := "oracle.go:31", after := #[{ on := 11, ground := Ground.data }], guard := none }) rfl (by kernel_rfl) (by rfl) ?_
            refine wp_loads (.bool _) (by go_simp; try rfl) ?_
            refine ⟨hS, ?_⟩
            try simp only [Act.put, List.setIfInBounds_toArray, List.set_cons_zero, List.set_cons_succ]
            (refine wpH_pure 13 ?_ (oi := { dst := some 46, op := Op.move (Operand.tmp 45), type := 4, pos := "oracle.go:31", after := #[{ on := 12, ground := Ground.data }], guard := none }) rfl (by kernel_rfl) (by kernel_rfl) (by kernel_rfl) (by rfl) hS (fun _ _ _ h => h) ?_ ?_; rotate_left; focus (intro w; go_simp; try with_reducible rfl))
            try simp only [Act.put, List.setIfInBounds_toArray, List.set_cons_zero, List.set_cons_succ]
            (first | (refine wpH_skip 14 (oi := { dst := some 47, op := Op.move (Operand.tmp 3), type := 4, pos := "oracle.go:31", after := #[{ on := 13, ground := Ground.guard }], guard := some (13, true) }) rfl (by kernel_rfl) (by kernel_rfl) (by kernel_rfl) (by rfl) hS (fun _ _ _ h => h) ?_) | (refine wpH_pure 14 ?_ (oi := { dst := some 47, op := Op.move (Operand.tmp 3), type := 4, pos := "oracle.go:31", after := #[{ on := 13, ground := Ground.guard }], guard := some (13, true) }) rfl (by kernel_rfl) (by kernel_rfl) (by kernel_rfl) (by rfl) hS (fun _ _ _ h => h) ?_ ?_; rotate_left; focus (intro w; go_simp; try with_reducible rfl)))
            try simp only [Act.put, List.setIfInBounds_toArray, List.set_cons_zero, List.set_cons_succ]
            (refine wpH_pure 15 ?_ (oi := { dst := some 48, op := Op.pick (Operand.tmp 46) (Operand.tmp 47) (Operand.const (Value.bool false)), type := 4, pos := "oracle.go:31", after := #[{ on := 13, ground := Ground.data }, { on := 14, ground := Ground.data }], guard := none }) rfl (by kernel_rfl) (by kernel_rfl) (by kernel_rfl) (by rfl) hS (fun _ _ _ h => h) ?_ ?_; rotate_left; focus (intro w; go_simp; try with_reducible rfl))
            try simp only [Act.put, List.setIfInBounds_toArray, List.set_cons_zero, List.set_cons_succ]
            (refine wpH_pure 16 ?_ (oi := { dst := some 49, op := Op.indexAddr 32 (Operand.tmp 36) (Operand.tmp 37), type := 0, pos := "oracle.go:31", after := #[{ on := 3, ground := Ground.data }, { on := 4, ground := Ground.data }, { on := 0, ground := Ground.phase }, { on := 1, ground := Ground.phase }, { on := 2, ground := Ground.phase }, { on := 3, ground := Ground.phase }, { on := 4, ground := Ground.phase }, { on := 5, ground := Ground.phase }, { on := 6, ground := Ground.phase }, { on := 7, ground := Ground.phase }, { on := 8, ground := Ground.phase }, { on := 9, ground := Ground.phase }, { on := 10, ground := Ground.phase }, { on := 11, ground := Ground.phase }, { on := 12, ground := Ground.phase }, { on := 13, ground := Ground.phase }, { on := 14, ground := Ground.phase }, { on := 15, ground := Ground.phase }], guard := none }) rfl (by kernel_rfl) (by kernel_rfl) (by kernel_rfl) (by rfl) hS (fun _ _ _ h => h) ?_ ?_; rotate_left; focus (intro w; go_simp; try with_reducible rfl))
            try simp only [Act.put, List.setIfInBounds_toArray, List.set_cons_zero, List.set_cons_succ]
            (refine wpH_pure 17 ?_ (oi := { dst := some 50, op := Op.fieldAddr 95 (Operand.tmp 49) 2, type := 0, pos := "oracle.go:31", after := #[{ on := 16, ground := Ground.data }, { on := 0, ground := Ground.phase }, { on := 1, ground := Ground.phase }, { on := 2, ground := Ground.phase }, { on := 3, ground := Ground.phase }, { on := 4, ground := Ground.phase }, { on := 5, ground := Ground.phase }, { on := 6, ground := Ground.phase }, { on := 7, ground := Ground.phase }, { on := 8, ground := Ground.phase }, { on := 9, ground := Ground.phase }, { on := 10, ground := Ground.phase }, { on := 11, ground := Ground.phase }, { on := 12, ground := Ground.phase }, { on := 13, ground := Ground.phase }, { on := 14, ground := Ground.phase }, { on := 15, ground := Ground.phase }], guard := none }) rfl (by kernel_rfl) (by kernel_rfl) (by kernel_rfl) (by rfl) hS (fun _ _ _ h => h) ?_ ?_; rotate_left; focus (intro w; go_simp; try with_reducible rfl))
            try simp only [Act.put, List.setIfInBounds_toArray, List.set_cons_zero, List.set_cons_succ]
            refine wpH_op 18 (oi := { dst := none, op := Op.store 4 (Operand.tmp 50) (Operand.tmp 48), type := 0, pos := "oracle.go:31", after := #[{ on := 17, ground := Ground.data }, { on := 15, ground := Ground.data }, { on := 13, ground := Ground.chain }, { on := 0, ground := Ground.phase }, { on := 1, ground := Ground.phase }, { on := 2, ground := Ground.phase }, { on := 3, ground := Ground.phase }, { on := 4, ground := Ground.phase }, { on := 5, ground := Ground.phase }, { on := 6, ground := Ground.phase }, { on := 7, ground := Ground.phase }, { on := 8, ground := Ground.phase }, { on := 9, ground := Ground.phase }, { on := 10, ground := Ground.phase }, { on := 11, ground := Ground.phase }, { on := 12, ground := Ground.phase }, { on := 13, ground := Ground.phase }, { on := 14, ground := Ground.phase }, { on := 15, ground := Ground.phase }], guard := none }) rfl (by kernel_rfl) (by rfl) ?_
            unfold Oper.wp; go_simp
            refine ⟨hS.setCell (.inl (by simp)) _, ?_⟩
            try simp only [Act.put, List.setIfInBounds_toArray, List.set_cons_zero, List.set_cons_succ]
            refine wpAnyH_done (by kernel_rfl) ?_ _
            go_wp2_with fail
            go_ret
            refine ⟨rfl, ⟨b, .slice (some ⟨g, 0, none⟩) L.length cap, h1, h2, ?_, ?_, ?_, ?_⟩, ?_⟩
            · exact B2.mod ((Mod.refl [g] _).setCell (.inl (by simp)) _).drew (by simp; omega)
            · rw [HKS.out, List.length_set]
              exact ownsMap_mod hown2 ((Mod.refl [g] wq).setCell (.inl (by simp)) _).drew (by simp; omega)
            · exact (hgr _).kept (fun k hk => rfl)
            · intro x hx
              rcases List.mem_or_eq_of_mem_set hx with hx | rfl
              · exact h6 x hx
              · exact ⟨by simp; omega, HM.out⟩
            · exact (hbq.setCell (p := ⟨g, i * 3 + 2, none⟩) (by simp; omega) _).drew
        · have hin' : isIn L who mark = false := by simpa using hin
          by_cases hL : 1024 ≤ L.length
          · rw [show signL L who mark honest = (L, 2) from by simp [signL, hw0, hw6, hm, hin, hL]]
            have hT0 := hT
            obtain ⟨b, sv, h1, h2, B, h4, h5, h6⟩ := hT
            have hlook : ∀ w', Below w.heap.size w w' → (Instr.lookup 91 (.map (some b)) (.agg #[.string ⟨List.toArray (who)⟩, .string ⟨List.toArray (mark)⟩, .bool false]) true).run Tryd.prog w' = .ok (.tuple #[.int .i64 ((idxOf (L.map keyOfS).reverse (who, mark) : Int)), .bool (isIn L who mark)]) w' := fun w' hb => Tab.look (base := base) (p := p) (ownsMap_keep h4 hb) h6 (by omega) (by omega)
            rw [hin'] at hlook
            generalize (idxOf (L.map keyOfS).reverse (who, mark) : Int) = n at *
            have e3 : ((mark.length : Int) != 32) = false := by simp; omega
            have HT := Lib.hid hT0
            clear hm hT0
            go_enter Tryd.func26, Tryd.ntmps26
            go_wp2_with fail
            refine wpH_start (by kernel_rfl) (fun hS => ?_)
            (refine wpH_pure 0 ?_ (oi := { dst := some 22, op := Op.move (Operand.tmp 0), type := 31, pos := "oracle.go:30", after := #[], guard := none }) rfl (by kernel_rfl) (by kernel_rfl) (by kernel_rfl) (by rfl) hS (fun _ _ _ h => h) ?_ ?_; rotate_left; focus (intro w; go_simp; try with_reducible rfl))
            try simp only [Act.put, List.setIfInBounds_toArray, List.set_cons_zero, List.set_cons_succ]
            (refine wpH_pure 1 ?_ (oi := { dst := some 23, op := Op.nilCheck (Operand.tmp 22), type := 0, pos := "oracle.go:30", after := #[{ on := 0, ground := Ground.data }], guard := none }) rfl (by kernel_rfl) (by kernel_rfl) (by kernel_rfl) (by rfl) hS (fun _ _ _ h => h) ?_ ?_; rotate_left; focus (intro w; go_simp; try with_reducible rfl))
            try simp only [Act.put, List.setIfInBounds_toArray, List.set_cons_zero, List.set_cons_succ]
            (refine wpH_pure 2 ?_ (oi := { dst := some 24, op := Op.fieldAddr 93 (Operand.tmp 23) 0, type := 0, pos := "oracle.go:30", after := #[{ on := 1, ground := Ground.data }], guard := none }) rfl (by kernel_rfl) (by kernel_rfl) (by kernel_rfl) (by rfl) hS (fun _ _ _ h => h) ?_ ?_; rotate_left; focus (intro w; go_simp; try with_reducible rfl))
            try simp only [Act.put, List.setIfInBounds_toArray, List.set_cons_zero, List.set_cons_succ]
            refine wpH_load 3 (.map (some b)) (oi := { dst := some 25, op := Op.load 91 (Operand.tmp 24), type := 91, pos := "oracle.go:30", after := #[{ on := 2, ground := Ground.data }], guard := none }) rfl (by kernel_rfl) (by kernel_rfl) (by kernel_rfl) (by rfl) hS (fun _ _ _ h => h) (fun w hb => (by have c := (B.keep hb).cell 0; go_simp; try rfl)) ?_
            try simp only [Act.put, List.setIfInBounds_toArray, List.set_cons_zero, List.set_cons_succ]
            (refine wpH_pure 4 ?_ (oi := { dst := some 26, op := Op.move (Operand.tmp 1), type := 9, pos := "oracle.go:30", after := #[], guard := none }) rfl (by kernel_rfl) (by kernel_rfl) (by kernel_rfl) (by rfl) hS (fun _ _ _ h => h) ?_ ?_; rotate_left; focus (intro w; go_simp; try with_reducible rfl))
            try simp only [Act.put, List.setIfInBounds_toArray, List.set_cons_zero, List.set_cons_succ]
            (refine wpH_pure 5 ?_ (oi := { dst := some 27, op := Op.move (Operand.tmp 2), type := 9, pos := "oracle.go:30", after := #[], guard := none }) rfl (by kernel_rfl) (by kernel_rfl) (by kernel_rfl) (by rfl) hS (fun _ _ _ h => h) ?_ ?_; rotate_left; focus (intro w; go_simp; try with_reducible rfl))
            try simp only [Act.put, List.setIfInBounds_toArray, List.set_cons_zero, List.set_cons_succ]
            refine wpH_call 6 (oi := { dst := some 28, op := Op.call { callee := Callee.value (Operand.func 55), args := #[Operand.tmp 26, Operand.tmp 27], argTypes := #[9, 9] }, type := 95, pos := "oracle.go:30", after := #[{ on := 4, ground := Ground.data }, { on := 5, ground := Ground.data }], guard := none }) rfl (by kernel_rfl) (by rfl) (okey_any who mark _) ?_ ?_
            · (go_simp; try rfl)
            rintro e w' ⟨rfl, hbx⟩
            refine ⟨_, rfl, hS.trans (hbx.mono hS.size), ?_⟩
            replace hS := hS.trans (hbx.mono hS.size)
            try simp only [Act.put, List.setIfInBounds_toArray, List.set_cons_zero, List.set_cons_succ]
            refine wpH_load 7 (.tuple #[.int .i64 (n), .bool false]) (oi := { dst := some 29, op := Op.lookup 91 (Operand.tmp 25) (Operand.tmp 28) true, type := 90, pos := "oracle.go:30", after := #[{ on := 3, ground := Ground.data }, { on := 6, ground := Ground.data }], guard := none }) rfl (by kernel_rfl) (by kernel_rfl) (by kernel_rfl) (by rfl) hS (fun _ _ _ h => h) (fun w hb => (by have c := hlook w hb; go_simp; try exact c)) ?_
            try simp only [Act.put, List.setIfInBounds_toArray, List.set_cons_zero, List.set_cons_succ]
            (refine wpH_pure 8 ?_ (oi := { dst := some 21, op := Op.move (Operand.tmp 29), type := 90, pos := "oracle.go:30", after := #[{ on := 7, ground := Ground.data }], guard := none }) rfl (by kernel_rfl) (by kernel_rfl) (by kernel_rfl) (by rfl) hS (fun _ _ _ h => h) ?_ ?_; rotate_left; focus (intro w; go_simp; try with_reducible rfl))
            try simp only [Act.put, List.setIfInBounds_toArray, List.set_cons_zero, List.set_cons_succ]
            (refine wpH_pure 9 ?_ (oi := { dst := some 30, op := Op.extract (Operand.tmp 21) 0, type := 3, pos := "oracle.go:30", after := #[{ on := 8, ground := Ground.data }], guard := none }) rfl (by kernel_rfl) (by kernel_rfl) (by kernel_rfl) (by rfl) hS (fun _ _ _ h => h) ?_ ?_; rotate_left; focus (intro w; go_simp; try with_reducible rfl))
            try simp only [Act.put, List.setIfInBounds_toArray, List.set_cons_zero, List.set_cons_succ]
            (refine wpH_pure 10 ?_ (oi := { dst := some 31, op := Op.extract (Operand.tmp 21) 1, type := 4, pos := "oracle.go:30", after := #[{ on := 8, ground := Ground.data }, { on := 11, ground := Ground.gcOnly Departure.lateStores }], guard := none }) rfl (by kernel_rfl) (by kernel_rfl) (by kernel_rfl) (by rfl) hS (fun _ _ _ h => h) ?_ ?_; rotate_left; focus (intro w; go_simp; try with_reducible rfl))
            try simp only [Act.put, List.setIfInBounds_toArray, List.set_cons_zero, List.set_cons_succ]
            (refine wpH_pure 11 ?_ (oi := { dst := some 9, op := Op.assign (Operand.tmp 30), type := 3, pos := "oracle.go:30", after := #[{ on := 9, ground := Ground.data }, { on := 6, ground := Ground.chain }, { on := 0, ground := Ground.phase }, { on := 1, ground := Ground.phase }, { on := 2, ground := Ground.phase }, { on := 3, ground := Ground.phase }, { on := 4, ground := Ground.phase }, { on := 5, ground := Ground.phase }, { on := 6, ground := Ground.phase }, { on := 7, ground := Ground.phase }, { on := 8, ground := Ground.phase }, { on := 9, ground := Ground.phase }, { on := 10, ground := Ground.textOnly Departure.lateStores }], guard := none }) rfl (by kernel_rfl) (by kernel_rfl) (by kernel_rfl) (by rfl) hS (fun _ _ _ h => h) ?_ ?_; rotate_left; focus (intro w; go_simp; try with_reducible rfl))
            try simp only [Act.put, List.setIfInBounds_toArray, List.set_cons_zero, List.set_cons_succ]
            (refine wpH_pure 12 ?_ (oi := { dst := some 10, op := Op.assign (Operand.tmp 31), type := 4, pos := "oracle.go:30", after := #[{ on := 10, ground := Ground.data }, { on := 11, ground := Ground.chain }, { on := 0, ground := Ground.phase }, { on := 1, ground := Ground.phase }, { on := 2, ground := Ground.phase }, { on := 3, ground := Ground.phase }, { on := 4, ground := Ground.phase }, { on := 5, ground := Ground.phase }, { on := 6, ground := Ground.phase }, { on := 7, ground := Ground.phase }, { on := 8, ground := Ground.phase }, { on := 9, ground := Ground.phase }, { on := 10, ground := Ground.phase }, { on := 11, ground := Ground.phase }], guard := none }) rfl (by kernel_rfl) (by kernel_rfl) (by kernel_rfl) (by rfl) hS (fun _ _ _ h => h) ?_ ?_; rotate_left; focus (intro w; go_simp; try with_reducible rfl))
            try simp only [Act.put, List.setIfInBounds_toArray, List.set_cons_zero, List.set_cons_succ]
            refine wpAnyH_done (by kernel_rfl) ?_ _
            have B2 := B.keep hS
            obtain ⟨b1, b2, b3⟩ := id B2
            obtain ⟨va, vc, rfl⟩ := h5.form
            have e4 : decide ((1024 : Int) ≤ (L.length : Int)) = true := by simp; omega
            have hbase : base ≤ w.heap.size := by have := B.lt; omega
            go_wp2_with fail
            go_ret
            exact ⟨rfl, HT.out.keep hS, hS.mono hbase⟩
          · rw [show signL L who mark honest = (L ++ [(who, mark, honest)], 0) from by simp [signL, hw0, hw6, hm, hin, hL]]
            exact osign_new base p L who mark honest hw0 (by omega) hm (by omega) hin' w hT
      · rw [show signL L who mark honest = (L, 3) from by simp [signL, hw0, hw6, hm]]
        have e3 : ((mark.length : Int) != 32) = true := by simp; omega
        go_enter Tryd.func26, Tryd.ntmps26
        go_wp2_with fail
        all_goals (go_ret; exact ⟨rfl, hT, Below.refl _ _⟩)
end Go.Proofs.YtbnjhfkmdejeaaaDoor

/- Layers 1, 2, 8: there and back, in plain Lean: no program in sight. -/
set_option linter.unusedSimpArgs false
set_option linter.unusedVariables false
namespace Go.Proofs.YtbnjhfkmdejeaaaDoor
namespace Pl

/-! ### numbers -/
theorem digs_len : ∀ f n, (digs f n).length ≤ f
  | 0, n => by simp [digs]
  | f + 1, n => by
    unfold digs
    split
    · simp
    · have := digs_len f (n / 256); simp; omega
theorem be_digs : ∀ f n, n < 256 ^ f → be (digs f n) = n
  | 0, n, h => by simp at h; subst h; simp [digs, be]
  | f + 1, n, h => by
    by_cases h0 : n = 0
    · subst h0; simp [digs, be]
    · rw [digs_step f n (by omega), be_snoc, be_digs f (n / 256) (by rw [Nat.pow_succ] at h; omega)]
      simp; omega
theorem digs_ne (f n : Nat) (h : 0 < n) : digs (f + 1) n ≠ [] := by
  rw [digs_step f n h]; simp
theorem digs_head : ∀ f n, 0 < n → n < 256 ^ f → (digs f n).headD 0 ≠ 0
  | 0, n, h, h2 => by simp at h2; omega
  | f + 1, n, h, h2 => by
    rw [digs_step f n h]
    by_cases h0 : n / 256 = 0
    · rw [h0, digs_zero]
      simp only [List.nil_append, List.headD_cons]
      intro e
      have := congrArg UInt8.toNat e
      simp at this
      omega
    · have ih := digs_head f (n / 256) (by omega) (by rw [Nat.pow_succ] at h2; omega)
      cases hd : digs f (n / 256) with
      | nil => rw [hd] at ih; exact absurd rfl ih
      | cons a r => rw [hd] at ih; simpa using ih
theorem take_num (n : Nat) (h : n < 9223372036854775808) (r : Bs) : take (num n ++ r) = (n, r, 0) := by
  have h1 := digs_len 8 n
  have h2 := be_digs 8 n (by omega)
  have hk : (UInt8.ofNat (digs 8 n).length).toNat = (digs 8 n).length := by simp; omega
  show take (UInt8.ofNat (digs 8 n).length :: (digs 8 n ++ r)) = _
  unfold take
  simp only [hk]
  rw [if_neg (by omega), if_neg (by simp)]
  have ht : (digs 8 n ++ r).take (digs 8 n).length = digs 8 n := by simp
  have hd : (digs 8 n ++ r).drop (digs 8 n).length = r := by simp
  rw [ht, hd, h2, if_neg]
  rintro (⟨h3, h4⟩ | ⟨h3, h4⟩)
  · have hn : 0 < n := by
      rcases Nat.eq_zero_or_pos n with h0 | h0
      · subst h0; rw [digs_zero] at h3; simp at h3
      · exact h0
    have := digs_head 8 n hn (by omega)
    cases hd : digs 8 n with
    | nil => rw [hd] at h3; simp at h3
    | cons a q => rw [hd] at this h4; simp at this h4; exact this h4
  · cases hd : digs 8 n with
    | nil => rw [hd] at h3; simp at h3
    | cons a q =>
      rw [hd] at h2 h4 h3
      rw [be_cons] at h2
      simp at h3 h4
      rw [h3] at h2
      omega
theorem tx_text (t : Bs) (most : Int) (h : t.length < 9223372036854775808) (hm : (t.length : Int) ≤ most) (r : Bs) : tx (text t ++ r) most = (t, r, 0) := by
  unfold tx text
  rw [List.append_assoc, take_num _ h]
  simp only [ne_eq, not_true_eq_false, if_false]
  rw [if_neg (by omega), if_neg (by simp)]
  simp
theorem mText_text (t : Bs) (most : Int) (h : t.length < 9223372036854775808) (hm : (t.length : Int) ≤ most) (r : Bs) : mText (text t ++ r) 0 most = (t, r, 0) := by
  unfold mText
  rw [tx_text t most h hm]
  simp
theorem mBytes_app (t : Bs) (n : Nat) (h : t.length = n) (r : Bs) : mBytes (t ++ r) 0 n = (t, r, 0) := by
  subst h
  unfold mBytes
  rw [if_neg (by simp), if_neg (by omega), if_neg (by simp; omega)]
  simp

/-! ### nibbles -/
theorem ofP_joined (p : Bs) (hf : fit p = true) (he : p.length % 2 = 0) : ofP (joined p) = p := by
  induction p using joined.induct with
  | case1 a b r ih =>
    have ha := fit_at _ hf 0 (by simp)
    have hb := fit_at _ hf 1 (by simp)
    simp at ha hb
    have hr : fit r = true := by
      unfold fit at hf ⊢
      simp at hf ⊢
      exact hf.2.2
    have h1 : (UInt8.ofNat (a.toNat * 16 + b.toNat)).toNat = a.toNat * 16 + b.toNat := by simp; omega
    show ofP (UInt8.ofNat (a.toNat * 16 + b.toNat) :: joined r) = _
    have : ∀ x : UInt8, ofP (x :: joined r) = [UInt8.ofNat (x.toNat / 16), UInt8.ofNat (x.toNat % 16)] ++ ofP (joined r) := fun x => by simp [ofP]
    rw [this, h1, ih hr (by simp at he; omega), show (a.toNat * 16 + b.toNat) / 16 = a.toNat from by omega, show (a.toNat * 16 + b.toNat) % 16 = b.toNat from by omega]
    simp
  | case2 s h =>
    match s, h, he with
    | [], _, _ => simp [joined, ofP]
    | [x], _, he => simp at he
    | a :: b :: r, h, _ => exact absurd rfl (h a b r)
theorem unpack_pack (p : Bs) (leaf : Bool) (hf : fit p = true) : unpack (pack p leaf).1 = (p, leaf, 0) := by
  unfold pack
  rw [if_neg (by simp [hf])]
  by_cases ho : p.length % 2 = 1
  · rw [if_pos ho]
    cases p with
    | nil => simp at ho
    | cons c r =>
      have hc := fit_at _ hf 0 (by simp)
      simp at hc
      have hr : fit r = true := by
        unfold fit at hf ⊢
        simp at hf ⊢
        exact hf.2
      have hj := ofP_joined r hr (by simp at ho; omega)
      simp only [List.headD_cons, List.tail_cons]
      cases leaf
      · have h1 : (UInt8.ofNat (16 + c.toNat)).toNat = 16 + c.toNat := by simp; omega
        have h0 : (if (false : Bool) = true then 32 else 0) + 16 + c.toNat = 16 + c.toNat := by simp
        rw [h0]
        have h2 : (16 + c.toNat) / 16 = 1 := by omega
        have h3 : (16 + c.toNat) % 16 = c.toNat := by omega
        simp only [unpack, h1, h2, h3, hj]
        simp
      · have h1 : (UInt8.ofNat (48 + c.toNat)).toNat = 48 + c.toNat := by simp; omega
        show unpack (UInt8.ofNat (48 + c.toNat) :: joined r) = _
        have h2 : (48 + c.toNat) / 16 = 3 := by omega
        have h3 : (48 + c.toNat) % 16 = c.toNat := by omega
        simp only [unpack, h1, h2, h3, hj]
        simp
  · rw [if_neg ho]
    have hj := ofP_joined p hf (by omega)
    cases leaf
    · simp [unpack, hj]
    · simp [unpack, hj]

theorem joined_half (s : Bs) : (joined s).length ≤ s.length / 2 := by
  induction s using joined.induct with
  | case1 a b r ih => simp [joined] at ih ⊢; omega
  | case2 s h =>
    rw [joined.eq_def]
    split
    · rename_i a b r; exact absurd rfl (h a b r)
    · simp
theorem pack_half (p : Bs) (leaf : Bool) : (pack p leaf).1.length ≤ p.length / 2 + 1 := by
  unfold pack
  have h1 := joined_half p
  have h2 := joined_half p.tail
  have h3 : p.tail.length ≤ p.length := by simp
  split
  · simp
  · split
    · simp at *; omega
    · simp; omega
/-! ### nodes -/
theorem bit_of (kid : Nat → Bs) (k : Nat) (hk : k < 16) : numTo kid 16 / 2 ^ (15 - k) % 2 = bitv kid k := by
  have h := numTo_add kid (k + 1) (15 - k)
  have h2 := numTo_lt (fun i => kid (k + 1 + i)) (15 - k)
  rw [show k + 1 + (15 - k) = 16 from by omega] at h
  rw [h, Nat.mul_comm, Nat.mul_add_div (Nat.two_pow_pos _), Nat.div_eq_of_lt h2, Nat.add_zero, numTo]
  have : bitv kid k ≤ 1 := by unfold bitv; split <;> omega
  omega
/-- The kids from k on. -/
def kidsFrom (kid : Nat → Bs) : Nat → List Bs
  | 0 => []
  | n + 1 => (if kid (15 - n) = [] then [] else [kid (15 - n)]) ++ kidsFrom kid n
theorem kidsFrom_all (kid : Nat → Bs) : ∀ n, n ≤ 16 → kidsTo kid (16 - n) ++ kidsFrom kid n = kidsF kid
  | 0, _ => by simp [kidsFrom, kidsF]
  | n + 1, h => by
    rw [← kidsFrom_all kid n (by omega), kidsFrom, ← List.append_assoc, ← show 16 - (n + 1) = 15 - n from by omega, ← kidsTo_succ, show 16 - (n + 1) + 1 = 16 - n from by omega]
/-- The first k kids. -/
def cut (kid : Nat → Bs) (k : Nat) : Nat → Bs := fun i => if i < k then kid i else []
theorem rdKids_flat (kid : Nat → Bs) (ha : all32 (kidsF kid) = true) (r : Bs) : ∀ k, k ≤ 16 → rdKids (numTo kid 16) ((kidsF kid).flatten ++ r) 0 k = (cut kid k, (kidsFrom kid (16 - k)).flatten ++ r, 0)
  | 0, _ => by
    have h := kidsFrom_all kid 16 (by omega)
    simp [kidsTo] at h
    rw [rdKids, h]
    congr 1
  | k + 1, hk => by
    have ih := rdKids_flat kid ha r k (by omega)
    have hb := bit_of kid k (by omega)
    have hf : kidsFrom kid (16 - k) = (if kid k = [] then [] else [kid k]) ++ kidsFrom kid (16 - (k + 1)) := by
      rw [show 16 - k = (15 - k) + 1 from by omega, kidsFrom, show 15 - (15 - k) = k from by omega, show 16 - (k + 1) = 15 - k from by omega]
    rw [rdKids, ih, hb]
    by_cases he : kid k = []
    · rw [bitv, if_pos he, if_neg (by omega), hf, if_pos he]
      congr 1
      funext i
      unfold cut
      by_cases h1 : i < k
      · rw [if_pos h1, if_pos (by omega)]
      · by_cases h2 : i = k
        · subst h2; rw [if_neg h1, if_pos (by omega), he]
        · rw [if_neg h1, if_neg (by omega)]
    · have h32 : (kid k).length = 32 := by
        have h := kidsFrom_all kid (16 - k) (by omega)
        rw [hf, if_neg he] at h
        have hm : kid k ∈ kidsF kid := by rw [← h]; simp
        have := List.all_eq_true.1 ha (kid k) hm
        simpa using this
      rw [bitv, if_neg he, if_pos rfl, hf, if_neg he]
      simp only [List.flatten_append, List.flatten_cons, List.flatten_nil, List.append_nil, List.append_assoc]
      have hmb : mBytes (kid k ++ ((kidsFrom kid (16 - (k + 1))).flatten ++ r)) 0 32 = (kid k, (kidsFrom kid (16 - (k + 1))).flatten ++ r, 0) := mBytes_app (kid k) 32 h32 _
      rw [hmb]
      congr 1
      funext i
      simp only [cut, upd]
      by_cases h1 : i = k
      · subst h1; rw [if_pos rfl, if_pos (by omega)]
      · rw [if_neg h1]
        by_cases h2 : i < k
        · rw [if_pos h2, if_pos (by omega)]
        · rw [if_neg h2, if_neg (by omega)]

/-- What the bytes tell, what is left, the code; is the path packed as it should be? -/
def rdN : Bs → (Nd × Bs × Int) × Bool
  | [] => ((ndZ, [], 20), false)
  | k :: r =>
    if k = 3 then match r with
      | a :: b :: r' => (rdB (a.toNat * 256 + b.toNat) r', true)
      | _ => ((ndZ, [], 20), false)
    else if k = 1 then (rdL r 0, decide ((unpack (mText r 0 16).1).2.2 = 0) && (unpack (mText r 0 16).1).2.1)
    else (rdE k.toNat r 0, decide ((unpack (mText r 0 16).1).2.2 = 0) && !(unpack (mText r 0 16).1).2.1)
theorem dec_rdN (s : Bs) : dec s = decEnd (rdN s).1 (rdN s).2 := by
  match s with
  | [] => rfl
  | k :: r =>
    unfold dec rdN
    by_cases h3 : k = 3
    · simp only [if_pos h3]
      match r with
      | [] => rfl
      | [x] => rfl
      | a :: b :: r' => rfl
    · simp only [if_neg h3]
      by_cases h1 : k = 1
      · simp only [if_pos h1]
      · simp only [if_neg h1]
theorem kidL_eq {a b : Nat → Bs} (h : kidL a = kidL b) (i : Nat) (hi : i < 16) : a i = b i := by
  have := congrArg (fun l => l[i]?) h
  simpa [kidL, hi] using this
theorem cut_none {kid : Nat → Bs} (h : noKids kid = true) : cut kid 16 = noK := by
  funext i
  unfold cut
  by_cases hi : i < 16
  · rw [if_pos hi]
    have h1 : kidL kid = kidL noK := by
      simp only [noKids, sameL, decide_eq_true_eq] at h
      rw [h]; rfl
    exact kidL_eq h1 i hi
  · rw [if_neg hi]; rfl
theorem cut_one {kid : Nat → Bs} (h : oneKidX kid (kid 0) = true) : cut kid 16 = upd noK 0 (kid 0) := by
  have h1 : kidL kid = kidL (upd noK 0 (kid 0)) := by
    simp only [oneKidX, sameL, decide_eq_true_eq] at h
    rw [h]; rfl
  funext i
  unfold cut
  by_cases hi : i < 16
  · rw [if_pos hi]; exact kidL_eq h1 i hi
  · rw [if_neg hi]; unfold upd; rw [if_neg (by omega)]; rfl
theorem rdN_enc (kind : Int) (path val : Bs) (kid : Nat → Bs) (hc : chk kind path val kid = true) (more : Bs) :
    rdN (enc kind path val kid ++ more) = ((⟨kind, path, val, cut kid 16⟩, more, 0), true) := by
  unfold chk at hc
  by_cases k1 : kind = 1
  · subst k1
    simp [pathOk] at hc
    obtain ⟨⟨⟨hk, ⟨hf, hp⟩⟩, hv⟩, hv2⟩ := hc
    have hu := unpack_pack path true hf
    have hpl : (pack path true).1.length ≤ 16 := by
      have := pack_half path true
      omega
    have e1 : mText (text (pack path true).1 ++ (text val ++ more)) 0 16 = ((pack path true).1, text val ++ more, 0) := mText_text _ _ (by omega) (by omega) _
    have e2 : mText (text val ++ more) 0 32 = (val, more, 0) := mText_text _ _ (by omega) (by omega) _
    rw [show enc 1 path val kid ++ more = 1 :: (text (pack path true).1 ++ (text val ++ more)) from by simp [enc]]
    simp only [rdN, rdL, e1, e2, hu, cut_none hk]
    simp
  · by_cases k2 : kind = 2
    · subst k2
      simp [pathOk, all32] at hc
      obtain ⟨⟨⟨hk, h32⟩, ⟨⟨hf, hp1⟩, hp⟩⟩, hv⟩ := hc
      subst hv
      have hu := unpack_pack path false hf
      have hpl : (pack path false).1.length ≤ 16 := by
        have := pack_half path false
        omega
      have e1 : mText (text (pack path false).1 ++ (kid 0 ++ more)) 0 16 = ((pack path false).1, kid 0 ++ more, 0) := mText_text _ _ (by omega) (by omega) _
      have e2 : mBytes (kid 0 ++ more) 0 32 = (kid 0, more, 0) := mBytes_app (kid 0) 32 h32 _
      rw [show enc 2 path [] kid ++ more = 2 :: (text (pack path false).1 ++ (kid 0 ++ more)) from by simp [enc]]
      simp only [rdN, rdE, e1, e2, hu, cut_one hk]
      simp
    · by_cases k3 : kind = 3
      · subst k3
        simp at hc
        obtain ⟨⟨⟨hp, ha⟩, hm⟩, hv⟩ := hc
        subst hp
        have h16 := numTo_16 kid
        have hh := hiK_lt kid
        have hl := loK_lt kid
        have h1 : (UInt8.ofNat (hiK kid)).toNat * 256 + (UInt8.ofNat (loK kid)).toNat = numTo kid 16 := by simp; omega
        have e1 := rdKids_flat kid ha (text val ++ more) 16 (by omega)
        have e2 : mText (text val ++ more) 0 32 = (val, more, 0) := mText_text _ _ (by omega) (by omega) _
        rw [show enc 3 [] val kid ++ more = 3 :: UInt8.ofNat (hiK kid) :: UInt8.ofNat (loK kid) :: ((kidsF kid).flatten ++ (text val ++ more)) from by simp [enc]]
        simp only [rdN, if_true, rdB, h1, e1]
        simp [kidsFrom, e2]
      · rw [if_neg k1, if_neg k2, if_neg k3] at hc
        exact absurd hc (by simp)

/-- Two nodes are the same. -/
def sameN (k : Int) (p v : Bs) (kid : Nat → Bs) (k2 : Int) (p2 v2 : Bs) (kid2 : Nat → Bs) : Prop := k = k2 ∧ p = p2 ∧ v = v2 ∧ ∀ i, i < 16 → kid i = kid2 i
theorem cut_at {kid kid2 : Nat → Bs} (h : cut kid 16 = cut kid2 16) (i : Nat) (hi : i < 16) : kid i = kid2 i := by
  have := congrFun h i
  simpa [cut, hi] using this
/-- The bytes of one begin the other's just if they are the same. -/
theorem enc_begins {k k2 : Int} {p v p2 v2 : Bs} {kid kid2 : Nat → Bs} (h : chk k p v kid = true) (h2 : chk k2 p2 v2 kid2 = true) (more : Bs) (he : enc k2 p2 v2 kid2 = enc k p v kid ++ more) :
    more = [] ∧ sameN k p v kid k2 p2 v2 kid2 := by
  have e1 := rdN_enc k p v kid h more
  have e2 := rdN_enc k2 p2 v2 kid2 h2 []
  rw [List.append_nil, he, e1] at e2
  simp only [Prod.mk.injEq, Nd.mk.injEq, and_true] at e2
  obtain ⟨⟨a1, a2, a3, a4⟩, a5⟩ := e2
  exact ⟨a5, a1, a2, a3, cut_at a4⟩
theorem kidL_of {kid kid2 : Nat → Bs} (h : ∀ i, i < 16 → kid i = kid2 i) : kidL kid = kidL kid2 := by
  unfold kidL
  apply List.map_congr_left
  intro i hi
  exact h i (by simpa using hi)
theorem kidsTo_of {kid kid2 : Nat → Bs} (h : ∀ i, i < 16 → kid i = kid2 i) : ∀ n, n ≤ 16 → kidsTo kid n = kidsTo kid2 n
  | 0, _ => rfl
  | n + 1, hn => by rw [kidsTo_succ, kidsTo_succ, kidsTo_of h n (by omega), h n (by omega)]
theorem numTo_of {kid kid2 : Nat → Bs} (h : ∀ i, i < 16 → kid i = kid2 i) : ∀ n, n ≤ 16 → numTo kid n = numTo kid2 n
  | 0, _ => rfl
  | n + 1, hn => by rw [numTo, numTo, numTo_of h n (by omega), bitv, bitv, h n (by omega)]
theorem enc_of {k k2 : Int} {p v p2 v2 : Bs} {kid kid2 : Nat → Bs} (h : sameN k p v kid k2 p2 v2 kid2) : enc k p v kid = enc k2 p2 v2 kid2 := by
  obtain ⟨rfl, rfl, rfl, h⟩ := h
  have h1 : kidsF kid = kidsF kid2 := kidsTo_of h 16 (by omega)
  have h2 : hiK kid = hiK kid2 := numTo_of h 8 (by omega)
  have h3 : loK kid = loK kid2 := by unfold loK; rw [numTo_of h 16 (by omega)]
  have h4 := h 0 (by omega)
  unfold enc
  rw [h1, h2, h3, h4]
theorem chk_of {k : Int} {p v : Bs} {kid kid2 : Nat → Bs} (h : ∀ i, i < 16 → kid i = kid2 i) : chk k p v kid = chk k p v kid2 := by
  have h1 : kidsF kid = kidsF kid2 := kidsTo_of h 16 (by omega)
  have h2 := kidL_of h
  have h4 := h 0 (by omega)
  unfold chk noKids oneKidX
  rw [h1, h2, h4]
/-- THE LAW 'NodeUnlike': the bytes are the same just if the nodes are. -/
theorem unlike {k k2 : Int} {p v p2 v2 : Bs} {kid kid2 : Nat → Bs} (h : chk k p v kid = true) (h2 : chk k2 p2 v2 kid2 = true) :
    (enc k p v kid = enc k2 p2 v2 kid2 ↔ sameN k p v kid k2 p2 v2 kid2) ∧ (((enc k p v kid).length ≤ (enc k2 p2 v2 kid2).length ∧ (enc k2 p2 v2 kid2).take (enc k p v kid).length = enc k p v kid) ↔ sameN k p v kid k2 p2 v2 kid2) := by
  refine ⟨⟨fun he => (enc_begins h h2 [] (by simp [he])).2, enc_of⟩, ⟨fun ⟨hl, ht⟩ => ?_, fun hs => ?_⟩⟩
  · refine (enc_begins h h2 ((enc k2 p2 v2 kid2).drop (enc k p v kid).length) ?_).2
    have := List.take_append_drop (enc k p v kid).length (enc k2 p2 v2 kid2)
    rw [ht] at this
    exact this.symm
  · rw [enc_of hs]; simp

end Pl
end Go.Proofs.YtbnjhfkmdejeaaaDoor
