/- Gathers, TwoGood. -/
import Derived.Test.YtbnjhfkmdejeaaaDoorMg13
import Derived.Test.YtbnjhfkmdejeaaaDoorMg14
import Derived.Test.YtbnjhfkmdejeaaaDoorMg16
import Derived.Test.YtbnjhfkmdejeaaaDoorMg17
set_option linter.unnecessarySimpa false

/- The certificate of all who signed: the walk of CertGathers. -/
set_option linter.unusedSimpArgs false
set_option linter.unusedVariables false
namespace Go.Proofs.YtbnjhfkmdejeaaaDoor
open Go.RowKit Pl

theorem good_short {tag : Int} {l : List (Bs × Int)} {d : Bs} {ns : List Bs} {L : List Sg} (h : goodC tag l d ns L = 0) : ns.length ≤ 7 ∧ ∀ i, i < ns.length → (ns.getD i []).length ≤ 6 := by
  obtain ⟨h1, _⟩ := good_parts h
  obtain ⟨hm, _, _⟩ := first_zero h1
  obtain ⟨_, p2, _, p4⟩ := mayC_parts hm
  exact ⟨p2, p4⟩
theorem mboth_len (u v : Value) (a b : List Bs) (ha : a.length ≤ 1000) (hb0 : b.length ≤ 1000) (hal : ∀ i, i < a.length → (a.getD i []).length ≤ maxLen) (hbl : ∀ i, i < b.length → (b.getD i []).length ≤ maxLen) (w : World) (hu : SS w u a) (hv : SS w v b) :
    Calls Tryd.prog 27 #[u, v] w fun e w' => ∃ xa xc, e = .returned (.slice xa (bothP a b).length xc) ∧ Below w.heap.size w w' :=
  (mboth_any u v a b ha hb0 hal hbl w hu hv).mono fun e w' ⟨x, he, hr, hb⟩ => by
    obtain ⟨xa, xc, rfl⟩ := hr.form
    exact ⟨xa, xc, he, hb⟩

set_option maxRecDepth 100000 in
set_option maxHeartbeats 2000000 in
theorem gathers_any (mv sv cv : Value) (tag : Int) (l : List (Bs × Int)) (st : List Stp) (d : Bs) (ns : List Bs) (hd : d.length ≤ maxLen) (w : World) (hm : MS w mv l) (hs : TS w sv st) (hss : TShort st) (hc : CV w cv d ns) (hk : KT w) :
    Calls Tryd.prog 5 #[.agg #[.int .i64 (tag), mv, sv], cv] w fun e w' => e = .returned (.bool true) ∧ Below w.heap.size w w' := by
  obtain ⟨u, rfl, hu⟩ := hc
  obtain ⟨ua, uc, rfl⟩ := hu.form
  obtain ⟨ma, mc, rfl⟩ := hm.form
  obtain ⟨sa, sc, rfl⟩ := hs.form
  have hlu := hu.small
  have hd' : d.length ≤ 9223372036854775807 := by unfold maxLen at hd; omega
  have hb0 : Below w.heap.size w ((w.alloc (.cells #[.int .i64 (tag), .slice ma l.length mc, .slice sa st.length sc] 25)).alloc (.cells #[.string ⟨List.toArray (d)⟩, .slice ua ns.length uc] 28)) := Below.allocS (Below.allocS (Below.refl _ _) _) _
  have B0 : Blk ((w.alloc (.cells #[.int .i64 (tag), .slice ma l.length mc, .slice sa st.length sc] 25)).alloc (.cells #[.string ⟨List.toArray (d)⟩, .slice ua ns.length uc] 28)) w.heap.size #[.int .i64 (tag), .slice ma l.length mc, .slice sa st.length sc] := (Blk.new _ _ _).alloc _
  have C0 : Blk ((w.alloc (.cells #[.int .i64 (tag), .slice ma l.length mc, .slice sa st.length sc] 25)).alloc (.cells #[.string ⟨List.toArray (d)⟩, .slice ua ns.length uc] 28)) (w.heap.size + 1) #[.string ⟨List.toArray (d)⟩, .slice ua ns.length uc] := Blk.new' (by simp)
  have hW0 := works7_any _ (hk.keep hb0)
  have HM := Lib.hid hm
  have HU := Lib.hid hu
  have HS := Lib.hid hs
  have HD := Lib.hid hd
  clear hm hu hs hd
  go_enter Tryd.func5, Tryd.ntmps5
  go_wp2_with fail
  refine hW0.mono ?_
  rintro e w1 ⟨rfl, hb⟩
  have hb1 := hb0.trans (hb.mono hb0.size)
  have B1 := B0.keep hb
  have C1 := C0.keep hb
  clear hW0 hb hb0 B0 C0
  obtain ⟨b1, b2, b3⟩ := id B1
  obtain ⟨c1, c2, c3⟩ := id C1
  have hT1 := table_any _ st hss _ (HS.out.keep hb1)
  go_wp2_with fail
  refine hT1.mono ?_
  rintro e w2 ⟨p, x, M, rfl, hT2, hGM, hP, hSo, hb⟩
  have hb2 := hb1.trans (hb.mono hb1.size)
  have B2 := B1.keep hb
  have C2 := C1.keep hb
  obtain ⟨base, hbase⟩ : ∃ base, base = w1.heap.size := ⟨_, rfl⟩
  rw [← hbase] at hT2 hGM hb
  clear hT1 hb B1 C1 b1 b2 b3 c1 c2 c3
  generalize stepsT (st.take 30) = L at *
  obtain ⟨b1, b2, b3⟩ := id B2
  obtain ⟨c1, c2, c3⟩ := id C2
  have hga := cgather_any tag _ l d base p L hd' w2 (HM.out.keep hb2) hT2 (hk.keep hb2)
  have hlaw1 := @gath_good tag l d L
  have hlaw2 := @good_gath tag l d ns L
  have hgsh : (gathC tag l d L).2 = 0 → _ := fun h => good_short (hlaw1 h).1
  have hnsh := @good_short tag l d ns L
  go_wp2_with fail
  refine hga.mono ?_
  rintro e w3 ⟨y, rfl, hSy, hb⟩
  obtain ⟨ya, yc, rfl⟩ := hSy.form
  have hy := hSy.ss
  have hb3 := hb2.trans (hb.mono hb2.size)
  have B3 := B2.keep hb
  have C3 := C2.keep hb
  have hT3 := hT2.keep hb
  clear hb hb2 B2 C2 b1 b2 b3 c1 c2 c3 hT2 hGM hSy hga
  generalize gathC tag l d L = q at *
  obtain ⟨⟨gd, gn⟩, gc⟩ := q
  simp only at hlaw1 hlaw2 hgsh hy ⊢
  have hx : Below w3.heap.size w3 (w3.alloc (.cells #[.string ⟨List.toArray (gd)⟩, .slice ya gn.length yc] 28)) := Below.allocS (Below.refl _ _) _
  have hb4 := hb3.trans (hx.mono hb3.size)
  have B4 := B3.keep hx
  have C4 := C3.keep hx
  have D4 : Blk (w3.alloc (.cells #[.string ⟨List.toArray (gd)⟩, .slice ya gn.length yc] 28)) w3.heap.size #[.string ⟨List.toArray (gd)⟩, .slice ya gn.length yc] := Blk.new _ _ _
  have hT4 := hT3.keep hx
  have hy4 := hy.keep hx
  clear hx B3 C3 hT3 hy
  obtain ⟨b1, b2, b3⟩ := id B4
  obtain ⟨c1, c2, c3⟩ := id C4
  obtain ⟨e1, e2, e3⟩ := id D4
  have hlg := hy4.small
  have HHD := HD
  by_cases hz : gc = 0
  · subst hz
    obtain ⟨hgood, rfl⟩ := hlaw1 rfl
    obtain ⟨gs1, gs2⟩ := hgsh rfl
    have hck1 := ccheck_any tag _ _ l gd gn base p L _ (HM.out.keep hb4) ⟨_, rfl, hy4⟩ hT4 (hk.keep hb4)
    rw [hgood] at hck1
    clear hlaw1 hgsh
    go_wp2_with fail
    refine hck1.mono ?_
    rintro e w5 ⟨rfl, hb⟩
    have hb5 := hb4.trans (hb.mono hb4.size)
    have B5 := B4.keep hb
    have C5 := C4.keep hb
    have D5 := D4.keep hb
    have hT5 := hT4.keep hb
    have hy5 := hy4.keep hb
    clear hck1 hb hb4 B4 C4 D4 hT4 hy4 b1 b2 b3 c1 c2 c3 e1 e2 e3
    obtain ⟨b1, b2, b3⟩ := id B5
    obtain ⟨c1, c2, c3⟩ := id C5
    obtain ⟨e1, e2, e3⟩ := id D5
    by_cases h50 : 50 < ns.length
    · have d1 : decide ((50 : Int) < (ns.length : Int)) = true := by simp; omega
      go_wp2_with fail
      all_goals (go_ret; exact ⟨rfl, hb5⟩)
    · have d1 : decide ((50 : Int) < (ns.length : Int)) = false := by simp; omega
      have hck := ccheck_any tag _ _ l gd ns base p L _ (HM.out.keep hb5) ⟨_, rfl, HU.out.keep hb5⟩ hT5 (hk.keep hb5)
      by_cases hg : goodC tag l gd ns L = 0
      · rw [hg] at hck
        obtain ⟨n1, n2⟩ := hnsh hg
        obtain ⟨_, hlen⟩ := hlaw2 hg
        have hlen2 := hlen _ (bothP_is gn ns)
        have hbo : ∀ W, Below w.heap.size w W → SS W (.slice ya gn.length yc) gn → Calls Tryd.prog 27 #[.slice ya gn.length yc, .slice ua ns.length uc] W fun e w' => ∃ xa xc, e = .returned (.slice xa ns.length xc) ∧ Below W.heap.size W w' := fun W hW hyW => by
          have := mboth_len (.slice ya gn.length yc) (.slice ua ns.length uc) gn ns (by omega) (by omega) (fun i hi => by have := gs2 i hi; unfold maxLen; omega) (fun i hi => by have := n2 i hi; unfold maxLen; omega) W hyW (HU.out.keep hW)
          rw [hlen2] at this
          exact this
        clear hlaw2 hlen hlen2 hnsh
        go_wp2_with fail
        refine hck.mono ?_
        rintro e w6 ⟨rfl, hb⟩
        have hb6 := hb5.trans (hb.mono hb5.size)
        have C6 := C5.keep hb
        have D6 := D5.keep hb
        have hy6 := hy5.keep hb
        clear hck hb hb5 B5 C5 D5 hT5 hy5 b1 b2 b3 c1 c2 c3 e1 e2 e3
        go_wp2_with fail
        refine wpH_start (by kernel_rfl) (fun hS => ?_)
        (refine wpH_pure 0 ?_ (oi := { dst := some 61, op := Op.move (Operand.tmp 8), type := 36, pos := "theorems.go:67", after := #[], guard := none }) rfl (by kernel_rfl) (by kernel_rfl) (by kernel_rfl) (by rfl) hS (fun _ _ _ h => h) ?_ ?_; rotate_left; focus (intro w; go_simp; try with_reducible rfl))
        try simp only [Act.put, List.setIfInBounds_toArray, List.set_cons_zero, List.set_cons_succ]
        (refine wpH_pure 1 ?_ (oi := { dst := some 62, op := Op.binOp BinOp.eql 36 (Operand.tmp 61) (Operand.const (Value.int IntKind.i64 0)) 36, type := 4, pos := "theorems.go:67", after := #[{ on := 0, ground := Ground.data }], guard := none }) rfl (by kernel_rfl) (by kernel_rfl) (by kernel_rfl) (by rfl) hS (fun _ _ _ h => h) ?_ ?_; rotate_left; focus (intro w; go_simp; try with_reducible rfl))
        try simp only [Act.put, List.setIfInBounds_toArray, List.set_cons_zero, List.set_cons_succ]
        (refine wpH_pure 2 ?_ (oi := { dst := some 63, op := Op.move (Operand.tmp 62), type := 4, pos := "theorems.go:67", after := #[{ on := 1, ground := Ground.data }], guard := none }) rfl (by kernel_rfl) (by kernel_rfl) (by kernel_rfl) (by rfl) hS (fun _ _ _ h => h) ?_ ?_; rotate_left; focus (intro w; go_simp; try with_reducible rfl))
        try simp only [Act.put, List.setIfInBounds_toArray, List.set_cons_zero, List.set_cons_succ]
        (first | (refine wpH_skip 3 (oi := { dst := some 64, op := Op.fieldAddr 28 (Operand.tmp 7) 1, type := 0, pos := "theorems.go:67", after := #[{ on := 2, ground := Ground.guard }], guard := some (2, true) }) rfl (by kernel_rfl) (by kernel_rfl) (by kernel_rfl) (by rfl) hS (fun _ _ _ h => h) ?_) | (refine wpH_pure 3 ?_ (oi := { dst := some 64, op := Op.fieldAddr 28 (Operand.tmp 7) 1, type := 0, pos := "theorems.go:67", after := #[{ on := 2, ground := Ground.guard }], guard := some (2, true) }) rfl (by kernel_rfl) (by kernel_rfl) (by kernel_rfl) (by rfl) hS (fun _ _ _ h => h) ?_ ?_; rotate_left; focus (intro w; go_simp; try with_reducible rfl)))
        try simp only [Act.put, List.setIfInBounds_toArray, List.set_cons_zero, List.set_cons_succ]
        refine wpH_load 4 (.slice ya gn.length yc) (oi := { dst := some 65, op := Op.load 26 (Operand.tmp 64), type := 26, pos := "theorems.go:67", after := #[{ on := 3, ground := Ground.data }, { on := 2, ground := Ground.guard }], guard := some (2, true) }) rfl (by kernel_rfl) (by kernel_rfl) (by kernel_rfl) (by rfl) hS (fun _ _ _ h => h) (fun w hb2 => (by have c := (D6.keep hb2).cell 1; go_simp; try rfl)) ?_
        try simp only [Act.put, List.setIfInBounds_toArray, List.set_cons_zero, List.set_cons_succ]
        (first | (refine wpH_skip 5 (oi := { dst := some 66, op := Op.fieldAddr 28 (Operand.tmp 3) 1, type := 0, pos := "theorems.go:67", after := #[{ on := 2, ground := Ground.guard }], guard := some (2, true) }) rfl (by kernel_rfl) (by kernel_rfl) (by kernel_rfl) (by rfl) hS (fun _ _ _ h => h) ?_) | (refine wpH_pure 5 ?_ (oi := { dst := some 66, op := Op.fieldAddr 28 (Operand.tmp 3) 1, type := 0, pos := "theorems.go:67", after := #[{ on := 2, ground := Ground.guard }], guard := some (2, true) }) rfl (by kernel_rfl) (by kernel_rfl) (by kernel_rfl) (by rfl) hS (fun _ _ _ h => h) ?_ ?_; rotate_left; focus (intro w; go_simp; try with_reducible rfl)))
        try simp only [Act.put, List.setIfInBounds_toArray, List.set_cons_zero, List.set_cons_succ]
        refine wpH_load 6 (.slice ua ns.length uc) (oi := { dst := some 67, op := Op.load 26 (Operand.tmp 66), type := 26, pos := "theorems.go:67", after := #[{ on := 5, ground := Ground.data }, { on := 2, ground := Ground.guard }], guard := some (2, true) }) rfl (by kernel_rfl) (by kernel_rfl) (by kernel_rfl) (by rfl) hS (fun _ _ _ h => h) (fun w hb2 => (by have c := (C6.keep hb2).cell 1; go_simp; try rfl)) ?_
        try simp only [Act.put, List.setIfInBounds_toArray, List.set_cons_zero, List.set_cons_succ]
        (first | (refine wpH_skip 9 (oi := { dst := some 70, op := Op.fieldAddr 28 (Operand.tmp 3) 1, type := 0, pos := "theorems.go:67", after := #[{ on := 2, ground := Ground.guard }], guard := some (2, true) }) rfl (by kernel_rfl) (by kernel_rfl) (by kernel_rfl) (by rfl) hS (fun _ _ _ h => h) ?_) | (refine wpH_pure 9 ?_ (oi := { dst := some 70, op := Op.fieldAddr 28 (Operand.tmp 3) 1, type := 0, pos := "theorems.go:67", after := #[{ on := 2, ground := Ground.guard }], guard := some (2, true) }) rfl (by kernel_rfl) (by kernel_rfl) (by kernel_rfl) (by rfl) hS (fun _ _ _ h => h) ?_ ?_; rotate_left; focus (intro w; go_simp; try with_reducible rfl)))
        try simp only [Act.put, List.setIfInBounds_toArray, List.set_cons_zero, List.set_cons_succ]
        refine wpH_load 10 (.slice ua ns.length uc) (oi := { dst := some 71, op := Op.load 26 (Operand.tmp 70), type := 26, pos := "theorems.go:67", after := #[{ on := 9, ground := Ground.data }, { on := 2, ground := Ground.guard }], guard := some (2, true) }) rfl (by kernel_rfl) (by kernel_rfl) (by kernel_rfl) (by rfl) hS (fun _ _ _ h => h) (fun w hb2 => (by have c := (C6.keep hb2).cell 1; go_simp; try rfl)) ?_
        try simp only [Act.put, List.setIfInBounds_toArray, List.set_cons_zero, List.set_cons_succ]
        (first | (refine wpH_skip 11 (oi := { dst := some 72, op := Op.call { callee := Callee.builtin Builtin.len, args := #[Operand.tmp 71], argTypes := #[26] }, type := 3, pos := "theorems.go:67", after := #[{ on := 10, ground := Ground.data }, { on := 2, ground := Ground.guard }], guard := some (2, true) }) rfl (by kernel_rfl) (by kernel_rfl) (by kernel_rfl) (by rfl) hS (fun _ _ _ h => h) ?_) | (refine wpH_pure 11 ?_ (oi := { dst := some 72, op := Op.call { callee := Callee.builtin Builtin.len, args := #[Operand.tmp 71], argTypes := #[26] }, type := 3, pos := "theorems.go:67", after := #[{ on := 10, ground := Ground.data }, { on := 2, ground := Ground.guard }], guard := some (2, true) }) rfl (by kernel_rfl) (by kernel_rfl) (by kernel_rfl) (by rfl) hS (fun _ _ _ h => h) ?_ ?_; rotate_left; focus (intro w; go_simp; try with_reducible rfl)))
        try simp only [Act.put, List.setIfInBounds_toArray, List.set_cons_zero, List.set_cons_succ]
        refine wpH_call 7 (oi := { dst := some 68, op := Op.call { callee := Callee.value (Operand.func 27), args := #[Operand.tmp 65, Operand.tmp 67], argTypes := #[26, 26] }, type := 26, pos := "theorems.go:67", after := #[{ on := 4, ground := Ground.data }, { on := 6, ground := Ground.data }, { on := 2, ground := Ground.chain }, { on := 2, ground := Ground.guard }], guard := some (2, true) }) rfl (by kernel_rfl) (by rfl) (hbo _ (hb6.trans (hS.mono hb6.size)) (hy6.keep hS)) ?_ ?_
        · (go_simp; try rfl)
        rintro e w' ⟨xa, xc, rfl, hbx⟩
        refine ⟨_, rfl, hS.trans (hbx.mono hS.size), ?_⟩
        replace hS := hS.trans (hbx.mono hS.size)
        try simp only [Act.put, List.setIfInBounds_toArray, List.set_cons_zero, List.set_cons_succ]
        (first | (refine wpH_skip 8 (oi := { dst := some 69, op := Op.call { callee := Callee.builtin Builtin.len, args := #[Operand.tmp 68], argTypes := #[26] }, type := 3, pos := "theorems.go:67", after := #[{ on := 7, ground := Ground.data }, { on := 2, ground := Ground.guard }], guard := some (2, true) }) rfl (by kernel_rfl) (by kernel_rfl) (by kernel_rfl) (by rfl) hS (fun _ _ _ h => h) ?_) | (refine wpH_pure 8 ?_ (oi := { dst := some 69, op := Op.call { callee := Callee.builtin Builtin.len, args := #[Operand.tmp 68], argTypes := #[26] }, type := 3, pos := "theorems.go:67", after := #[{ on := 7, ground := Ground.data }, { on := 2, ground := Ground.guard }], guard := some (2, true) }) rfl (by kernel_rfl) (by kernel_rfl) (by kernel_rfl) (by rfl) hS (fun _ _ _ h => h) ?_ ?_; rotate_left; focus (intro w; go_simp; try with_reducible rfl)))
        try simp only [Act.put, List.setIfInBounds_toArray, List.set_cons_zero, List.set_cons_succ]
        (first | (refine wpH_skip 12 (oi := { dst := some 73, op := Op.binOp BinOp.eql 3 (Operand.tmp 69) (Operand.tmp 72) 3, type := 4, pos := "theorems.go:67", after := #[{ on := 8, ground := Ground.data }, { on := 11, ground := Ground.data }, { on := 2, ground := Ground.guard }], guard := some (2, true) }) rfl (by kernel_rfl) (by kernel_rfl) (by kernel_rfl) (by rfl) hS (fun _ _ _ h => h) ?_) | (refine wpH_pure 12 ?_ (oi := { dst := some 73, op := Op.binOp BinOp.eql 3 (Operand.tmp 69) (Operand.tmp 72) 3, type := 4, pos := "theorems.go:67", after := #[{ on := 8, ground := Ground.data }, { on := 11, ground := Ground.data }, { on := 2, ground := Ground.guard }], guard := some (2, true) }) rfl (by kernel_rfl) (by kernel_rfl) (by kernel_rfl) (by rfl) hS (fun _ _ _ h => h) ?_ ?_; rotate_left; focus (intro w; go_simp; try with_reducible rfl)))
        try simp only [Act.put, List.setIfInBounds_toArray, List.set_cons_zero, List.set_cons_succ]
        (refine wpH_pure 13 ?_ (oi := { dst := some 74, op := Op.pick (Operand.tmp 63) (Operand.tmp 73) (Operand.const (Value.bool false)), type := 4, pos := "theorems.go:67", after := #[{ on := 2, ground := Ground.data }, { on := 12, ground := Ground.data }], guard := none }) rfl (by kernel_rfl) (by kernel_rfl) (by kernel_rfl) (by rfl) hS (fun _ _ _ h => h) ?_ ?_; rotate_left; focus (intro w; go_simp; try with_reducible rfl))
        try simp only [Act.put, List.setIfInBounds_toArray, List.set_cons_zero, List.set_cons_succ]
        (refine wpH_pure 14 ?_ (oi := { dst := some 4, op := Op.assign (Operand.tmp 74), type := 4, pos := "theorems.go:67", after := #[{ on := 13, ground := Ground.data }, { on := 7, ground := Ground.chain }, { on := 0, ground := Ground.phase }, { on := 1, ground := Ground.phase }, { on := 2, ground := Ground.phase }, { on := 3, ground := Ground.phase }, { on := 4, ground := Ground.phase }, { on := 5, ground := Ground.phase }, { on := 6, ground := Ground.phase }, { on := 7, ground := Ground.phase }, { on := 8, ground := Ground.phase }, { on := 9, ground := Ground.phase }, { on := 10, ground := Ground.phase }, { on := 11, ground := Ground.phase }, { on := 12, ground := Ground.phase }, { on := 13, ground := Ground.phase }], guard := none }) rfl (by kernel_rfl) (by kernel_rfl) (by kernel_rfl) (by rfl) hS (fun _ _ _ h => h) ?_ ?_; rotate_left; focus (intro w; go_simp; try with_reducible rfl))
        try simp only [Act.put, List.setIfInBounds_toArray, List.set_cons_zero, List.set_cons_succ]
        refine wpAnyH_done (by kernel_rfl) ?_ _
        go_wp2_with fail
        all_goals (go_ret; exact ⟨rfl, hb6.trans (hS.mono hb6.size)⟩)
      · have e1' : (goodC tag l gd ns L != 0) = true := by simpa using hg
        generalize goodC tag l gd ns L = z at *
        go_wp2_with fail
        refine hck.mono ?_
        rintro e w6 ⟨rfl, hb⟩
        go_wp2_with fail
        all_goals (go_ret; exact ⟨rfl, hb5.trans (hb.mono hb5.size)⟩)
  · have ez : (gc == 0) = false := by simpa using hz
    by_cases h50 : 50 < ns.length
    · have d1 : decide ((50 : Int) < (ns.length : Int)) = true := by simp; omega
      go_wp2_with fail
      all_goals (go_ret; exact ⟨rfl, hb4⟩)
    · have d1 : decide ((50 : Int) < (ns.length : Int)) = false := by simp; omega
      have hck := ccheck_any tag _ _ l d ns base p L _ (HM.out.keep hb4) ⟨_, rfl, HU.out.keep hb4⟩ hT4 (hk.keep hb4)
      have hg : goodC tag l d ns L ≠ 0 := fun h => hz (hlaw2 h).1
      have e1' : (goodC tag l d ns L != 0) = true := by simpa using hg
      clear hlaw1 hlaw2 hgsh hnsh
      generalize goodC tag l d ns L = z at *
      go_wp2_with fail
      refine hck.mono ?_
      rintro e w6 ⟨rfl, hb⟩
      go_wp2_with fail
      all_goals (go_ret; exact ⟨rfl, hb4.trans (hb.mono hb4.size)⟩)
end Go.Proofs.YtbnjhfkmdejeaaaDoor

/- Two good certificates: the walk of CertBoth. -/
set_option linter.unusedSimpArgs false
set_option linter.unusedVariables false
namespace Go.Proofs.YtbnjhfkmdejeaaaDoor
open Go.RowKit Pl

set_option maxRecDepth 100000 in
set_option maxHeartbeats 4000000 in
theorem twogood_any (mv sv cv fv : Value) (tag : Int) (l : List (Bs × Int)) (st : List Stp) (d f : Bs) (ns fs : List Bs) (w : World) (hm : MS w mv l) (hs : TS w sv st) (hss : TShort st) (hc : CV w cv d ns) (hf : CV w fv f fs) (hk : KT w) :
    Calls Tryd.prog 6 #[.agg #[.int .i64 (tag), mv, sv], cv, fv] w fun e w' => e = .returned (.bool true) ∧ Below w.heap.size w w' := by
  obtain ⟨u, rfl, hu⟩ := hc
  obtain ⟨ua, uc, rfl⟩ := hu.form
  obtain ⟨v, rfl, hv⟩ := hf
  obtain ⟨va, vc, rfl⟩ := hv.form
  obtain ⟨ma, mc, rfl⟩ := hm.form
  obtain ⟨sa, sc, rfl⟩ := hs.form
  have hlu := hu.small
  have hlv := hv.small
  have hb0 : Below w.heap.size w (((w.alloc (.cells #[.int .i64 (tag), .slice ma l.length mc, .slice sa st.length sc] 25)).alloc (.cells #[.string ⟨List.toArray (d)⟩, .slice ua ns.length uc] 28)).alloc (.cells #[.string ⟨List.toArray (f)⟩, .slice va fs.length vc] 28)) := Below.allocS (Below.allocS (Below.allocS (Below.refl _ _) _) _) _
  have B0 : Blk (((w.alloc (.cells #[.int .i64 (tag), .slice ma l.length mc, .slice sa st.length sc] 25)).alloc (.cells #[.string ⟨List.toArray (d)⟩, .slice ua ns.length uc] 28)).alloc (.cells #[.string ⟨List.toArray (f)⟩, .slice va fs.length vc] 28)) w.heap.size #[.int .i64 (tag), .slice ma l.length mc, .slice sa st.length sc] := ((Blk.new _ _ _).alloc _).alloc _
  have C0 : Blk (((w.alloc (.cells #[.int .i64 (tag), .slice ma l.length mc, .slice sa st.length sc] 25)).alloc (.cells #[.string ⟨List.toArray (d)⟩, .slice ua ns.length uc] 28)).alloc (.cells #[.string ⟨List.toArray (f)⟩, .slice va fs.length vc] 28)) (w.heap.size + 1) #[.string ⟨List.toArray (d)⟩, .slice ua ns.length uc] := (Blk.new' (by simp)).alloc _
  have D0 : Blk (((w.alloc (.cells #[.int .i64 (tag), .slice ma l.length mc, .slice sa st.length sc] 25)).alloc (.cells #[.string ⟨List.toArray (d)⟩, .slice ua ns.length uc] 28)).alloc (.cells #[.string ⟨List.toArray (f)⟩, .slice va fs.length vc] 28)) (w.heap.size + 2) #[.string ⟨List.toArray (f)⟩, .slice va fs.length vc] := Blk.new' (by simp)
  have hW0 := works7_any _ (hk.keep hb0)
  have HM := Lib.hid hm
  have HU := Lib.hid hu
  have HV := Lib.hid hv
  have HS := Lib.hid hs
  clear hm hu hv hs
  go_enter Tryd.func6, Tryd.ntmps6
  go_wp2_with fail
  refine hW0.mono ?_
  rintro e w1 ⟨rfl, hb⟩
  have hb1 := hb0.trans (hb.mono hb0.size)
  have B1 := B0.keep hb
  have C1 := C0.keep hb
  have D1 := D0.keep hb
  clear hW0 hb hb0 B0 C0 D0
  obtain ⟨b1, b2, b3⟩ := id B1
  obtain ⟨c1, c2, c3⟩ := id C1
  obtain ⟨e1, e2, e3⟩ := id D1
  have hT1 := table_any _ st hss _ (HS.out.keep hb1)
  go_wp2_with fail
  refine hT1.mono ?_
  rintro e w2 ⟨p, x, M, rfl, hT2, hGM, hP, hSo, hb⟩
  have hb2 := hb1.trans (hb.mono hb1.size)
  have B2 := B1.keep hb
  have C2 := C1.keep hb
  have D2 := D1.keep hb
  obtain ⟨base, hbase⟩ : ∃ base, base = w1.heap.size := ⟨_, rfl⟩
  rw [← hbase] at hT2 hGM hb
  clear hT1 hb B1 C1 D1 b1 b2 b3 c1 c2 c3 e1 e2 e3 hGM hP hSo
  generalize stepsT (st.take 30) = L at *
  obtain ⟨b1, b2, b3⟩ := id B2
  obtain ⟨c1, c2, c3⟩ := id C2
  obtain ⟨e1, e2, e3⟩ := id D2
  have hlaw := fun h1 h2 => @two_good tag l d f ns fs (bothP ns fs) L h1 h2 (bothP_is ns fs)
  have hs1 := @good_short tag l d ns L
  have hs2 := @good_short tag l f fs L
  by_cases h50 : 50 < ns.length
  · have d1 : decide ((50 : Int) < (ns.length : Int)) = true := by simp; omega
    go_wp2_with fail
    all_goals (go_ret; exact ⟨rfl, hb2⟩)
  have d1 : decide ((50 : Int) < (ns.length : Int)) = false := by simp; omega
  by_cases h51 : 50 < fs.length
  · have d2 : decide ((50 : Int) < (fs.length : Int)) = true := by simp; omega
    go_wp2_with fail
    all_goals (go_ret; exact ⟨rfl, hb2⟩)
  have d2 : decide ((50 : Int) < (fs.length : Int)) = false := by simp; omega
  have hck1 := ccheck_any tag _ _ l d ns base p L _ (HM.out.keep hb2) ⟨_, rfl, HU.out.keep hb2⟩ hT2 (hk.keep hb2)
  have HLAW := Lib.hid hlaw
  have HS1 := Lib.hid hs1
  have HS2 := Lib.hid hs2
  clear hlaw hs1 hs2
  by_cases hg1 : goodC tag l d ns L = 0
  case neg =>
    have q1 : (goodC tag l d ns L != 0) = true := by simpa using hg1
    clear HLAW HS1 HS2
    generalize goodC tag l d ns L = z at *
    go_wp2_with fail
    refine hck1.mono ?_
    rintro e w3 ⟨rfl, hb⟩
    go_wp2_with fail
    all_goals (go_ret; exact ⟨rfl, hb2.trans (hb.mono hb2.size)⟩)
  rw [hg1] at hck1
  go_wp2_with fail
  refine hck1.mono ?_
  rintro e w3 ⟨rfl, hb⟩
  have hb3 := hb2.trans (hb.mono hb2.size)
  have B3 := B2.keep hb
  have C3 := C2.keep hb
  have D3 := D2.keep hb
  have hT3 := hT2.keep hb
  clear hck1 hb hb2 B2 C2 D2 b1 b2 b3 c1 c2 c3 e1 e2 e3 hT2
  obtain ⟨b1, b2, b3⟩ := id B3
  obtain ⟨c1, c2, c3⟩ := id C3
  obtain ⟨e1, e2, e3⟩ := id D3
  have hck2 := ccheck_any tag _ _ l f fs base p L _ (HM.out.keep hb3) ⟨_, rfl, HV.out.keep hb3⟩ hT3 (hk.keep hb3)
  by_cases hg2 : goodC tag l f fs L = 0
  case neg =>
    have q1 : (goodC tag l f fs L != 0) = true := by simpa using hg2
    clear HLAW HS1 HS2
    generalize goodC tag l f fs L = z at *
    go_wp2_with fail
    refine hck2.mono ?_
    rintro e w4 ⟨rfl, hb⟩
    go_wp2_with fail
    all_goals (go_ret; exact ⟨rfl, hb3.trans (hb.mono hb3.size)⟩)
  rw [hg2] at hck2
  go_wp2_with fail
  refine hck2.mono ?_
  rintro e w4 ⟨rfl, hb⟩
  have hb4 := hb3.trans (hb.mono hb3.size)
  have B4 := B3.keep hb
  have C4 := C3.keep hb
  have D4 := D3.keep hb
  have hT4 := hT3.keep hb
  clear hck2 hb hb3 B3 C3 D3 b1 b2 b3 c1 c2 c3 e1 e2 e3 hT3
  obtain ⟨b1, b2, b3⟩ := id B4
  obtain ⟨c1, c2, c3⟩ := id C4
  obtain ⟨e1, e2, e3⟩ := id D4
  obtain ⟨n1, n2⟩ := HS1.out hg1
  obtain ⟨m1, m2⟩ := HS2.out hg2
  obtain ⟨k1, k2, k3, k4, k5, k6, k7⟩ := HLAW.out hg1 hg2
  have hbl := both_len (bothP_is ns fs)
  have hmem := (bothP_is ns fs).2
  have hsh : ∀ i, i < (bothP ns fs).length → ((bothP ns fs).getD i []).length ≤ 6 ∧ isIn L ((bothP ns fs).getD i []) (tagP tag.toNat d) = true ∧ isIn L ((bothP ns fs).getD i []) (tagP tag.toNat f) = true := by
    intro i hi
    have hin : (bothP ns fs).getD i [] ∈ bothP ns fs := by
      rw [List.getD_eq_getElem?_getD, List.getElem?_eq_getElem hi]; exact List.getElem_mem _
    obtain ⟨a1, a2⟩ := (hmem _).1 hin
    obtain ⟨j, hj, he⟩ := List.getElem_of_mem a1
    have := n2 j hj
    rw [List.getD_eq_getElem?_getD, List.getElem?_eq_getElem hj] at this
    simp only [Option.getD_some] at this
    rw [he] at this
    exact ⟨this, k1 _ hin⟩
  have hm1 : markP tag d = (tagP tag.toNat d, 0) := by simp [markP, k4, k5]
  have hm2 : markP tag f = (tagP tag.toNat f, 0) := by simp [markP, k4, k6]
  have hbo := fun W hu2 hv2 => mboth_any (.slice ua ns.length uc) (.slice va fs.length vc) ns fs (by omega) (by omega) (fun i hi => by have := n2 i hi; unfold maxLen; omega) (fun i hi => by have := m2 i hi; unfold maxLen; omega) W hu2 hv2
  clear k1 hmem HLAW HS1 HS2
  generalize bothP ns fs = both at *
  go_wp2_with fail
  refine (hbo _ (HU.out.keep hb4) (HV.out.keep hb4)).mono ?_
  rintro e w5 ⟨y, rfl, hSy, hb⟩
  obtain ⟨ya, yc, rfl⟩ := hSy.form
  have hy5 := hSy.ss
  have hb5 := hb4.trans (hb.mono hb4.size)
  have B5 := B4.keep hb
  have C5 := C4.keep hb
  have D5 := D4.keep hb
  have hT5 := hT4.keep hb
  clear hb hb4 B4 C4 D4 b1 b2 b3 c1 c2 c3 e1 e2 e3 hT4 hSy hbo
  obtain ⟨b1, b2, b3⟩ := id B5
  obtain ⟨c1, c2, c3⟩ := id C5
  obtain ⟨e1, e2, e3⟩ := id D5
  have hmk1 := fun W hK => cmark_any tag d (by omega) W hK
  have hmk2 := fun W hK => cmark_any tag f (by omega) W hK
  rw [hm1] at hmk1
  rw [hm2] at hmk2
  have hml1 := tagP_len tag.toNat d
  have hml2 := tagP_len tag.toNat f
  generalize tagP tag.toNat d = r1 at *
  generalize tagP tag.toNat f = r2 at *
  go_wp2_with fail
  refine (hmk1 _ (hk.keep hb5)).mono ?_
  rintro e w6 ⟨rfl, hb⟩
  have hb6 := hb5.trans (hb.mono hb5.size)
  have B6 := B5.keep hb
  have C6 := C5.keep hb
  have D6 := D5.keep hb
  have hT6 := hT5.keep hb
  have hy6 := hy5.keep hb
  clear hb hb5 B5 C5 D5 b1 b2 b3 c1 c2 c3 e1 e2 e3 hT5 hy5
  obtain ⟨b1, b2, b3⟩ := id B6
  obtain ⟨e1, e2, e3⟩ := id D6
  go_wp2_with fail
  refine (hmk2 _ (hk.keep hb6)).mono ?_
  rintro e w7 ⟨rfl, hb⟩
  have hb7 := hb6.trans (hb.mono hb6.size)
  have B7 := B6.keep hb
  have hT7 := hT6.keep hb
  have hy7 := hy6.keep hb
  clear hb hb6 B6 C6 D6 b1 b2 b3 e1 e2 e3 hT6 hy6 hmk1 hmk2
  go_wp2_with fail
  go_loopw [83, 15] (fun s83 _ wr => ∃ (i : Nat), i ≤ both.length ∧ s83 = .int .i64 (i) ∧ Below w7.heap.size w7 wr) (fun s83 _ _ => both.length - (intOf s83).toNat)
  case atStart => exact ⟨0, by omega, rfl, Below.refl _ _⟩
  case round =>
    obtain ⟨i, hi, rfl, hb⟩ := hrel
    have hb8 := hb7.trans (hb.mono hb7.size)
    have B8 := B7.keep hb
    have hT8 := hT7.keep hb
    have hy8 := hy7.keep hb
    have hbr := hb
    clear hb
    by_cases hlt : i < both.length
    · obtain ⟨g, off, rfl, hg, q0⟩ := hy8.at' i hlt
      obtain ⟨s1, s2, s3⟩ := hsh i hlt
      have hi0 : 0 ≤ (i : Int) ∧ (i : Int) < (both.length : Int) := by omega
      have d3 : decide ((i : Int) < (both.length : Int)) = true := by simp; omega
      generalize both.getD i [] = n at *
      have ho1 := osigned_any base p L n r1 (by omega) (by omega) _ hT8
      rw [s2] at ho1
      go_wp2_with fail
      refine ho1.mono ?_
      rintro e w9 ⟨rfl, hb⟩
      have hb9 := hb8.trans (hb.mono hb8.size)
      have hT9 := hT8.keep hb
      have hwr := hbr.trans (hb.mono hbr.size)
      have ho2 := osigned_any base p L n r2 (by omega) (by omega) _ hT9
      rw [s3] at ho2
      clear hb ho1
      go_wp2_with fail
      refine ho2.mono ?_
      rintro e w10 ⟨rfl, hb⟩
      go_wp2_with fail
      exact ⟨⟨i + 1, by omega, rfl, hwr.trans (hb.mono hwr.size)⟩, by simp [intOf]; omega⟩
    · have d3 : decide ((i : Int) < (both.length : Int)) = false := by simp; omega
      have hmo := mof_any (.slice ma l.length mc) (.slice ya both.length yc) l both (by omega) (fun j hj => by have := (hsh j hj).1; unfold maxLen; omega)
      have hmm := mmost_any (.slice ma l.length mc) l
      have hmt := mtotal_any (.slice ma l.length mc) l
      obtain ⟨o1, o2⟩ := of_bound both k7
      obtain ⟨t1, t2⟩ := totM_bound l
      generalize ofM l both = nc at *
      generalize mostM l = nm at *
      generalize totM l = nt at *
      have f1 : decide (nm < nc) = true := by simpa using k2
      have hwq : IntKind.i64.wrap (3 * nc) = 3 * nc := by rw [IntKind.wrap_i64]; omega
      have f2 : decide (nt < IntKind.i64.wrap (3 * nc)) = true := by rw [hwq]; simpa using k3
      go_wp2_with fail
      refine wpH_start (by kernel_rfl) (fun hS => ?_)
      (refine wpH_pure 0 ?_ (oi := { dst := some 100, op := Op.fieldAddr 25 (Operand.tmp 3) 1, type := 0, pos := "theorems.go:51", after := #[], guard := none }) rfl (by kernel_rfl) (by kernel_rfl) (by kernel_rfl) (by rfl) hS (fun _ _ _ h => h) ?_ ?_; rotate_left; focus (intro w; go_simp; try with_reducible rfl))
      try simp only [Act.put, List.setIfInBounds_toArray, List.set_cons_zero, List.set_cons_succ]
      refine wpH_load 1 (.slice ma l.length mc) (oi := { dst := some 101, op := Op.load 22 (Operand.tmp 100), type := 22, pos := "theorems.go:51", after := #[{ on := 0, ground := Ground.data }], guard := none }) rfl (by kernel_rfl) (by kernel_rfl) (by kernel_rfl) (by rfl) hS (fun _ _ _ h => h) (fun w hb2 => (by have c := (B8.keep hb2).cell 1; go_simp; try rfl)) ?_
      try simp only [Act.put, List.setIfInBounds_toArray, List.set_cons_zero, List.set_cons_succ]
      (refine wpH_pure 2 ?_ (oi := { dst := some 102, op := Op.move (Operand.tmp 9), type := 26, pos := "theorems.go:51", after := #[], guard := none }) rfl (by kernel_rfl) (by kernel_rfl) (by kernel_rfl) (by rfl) hS (fun _ _ _ h => h) ?_ ?_; rotate_left; focus (intro w; go_simp; try with_reducible rfl))
      try simp only [Act.put, List.setIfInBounds_toArray, List.set_cons_zero, List.set_cons_succ]
      (refine wpH_pure 4 ?_ (oi := { dst := some 104, op := Op.fieldAddr 25 (Operand.tmp 3) 1, type := 0, pos := "theorems.go:51", after := #[], guard := none }) rfl (by kernel_rfl) (by kernel_rfl) (by kernel_rfl) (by rfl) hS (fun _ _ _ h => h) ?_ ?_; rotate_left; focus (intro w; go_simp; try with_reducible rfl))
      try simp only [Act.put, List.setIfInBounds_toArray, List.set_cons_zero, List.set_cons_succ]
      refine wpH_load 5 (.slice ma l.length mc) (oi := { dst := some 105, op := Op.load 22 (Operand.tmp 104), type := 22, pos := "theorems.go:51", after := #[{ on := 4, ground := Ground.data }], guard := none }) rfl (by kernel_rfl) (by kernel_rfl) (by kernel_rfl) (by rfl) hS (fun _ _ _ h => h) (fun w hb2 => (by have c := (B8.keep hb2).cell 1; go_simp; try rfl)) ?_
      try simp only [Act.put, List.setIfInBounds_toArray, List.set_cons_zero, List.set_cons_succ]
      refine wpH_call 3 (oi := { dst := some 103, op := Op.call { callee := Callee.value (Operand.func 29), args := #[Operand.tmp 101, Operand.tmp 102], argTypes := #[22, 26] }, type := 3, pos := "theorems.go:51", after := #[{ on := 1, ground := Ground.data }, { on := 2, ground := Ground.data }], guard := none }) rfl (by kernel_rfl) (by rfl) (hmo _ (HM.out.keep (hb8.trans (hS.mono hb8.size))) (hy8.keep hS)) ?_ ?_
      · (go_simp; try rfl)
      rintro e w' ⟨rfl, hbx⟩
      refine ⟨_, rfl, hS.trans (hbx.mono hS.size), ?_⟩
      replace hS := hS.trans (hbx.mono hS.size)
      try simp only [Act.put, List.setIfInBounds_toArray, List.set_cons_zero, List.set_cons_succ]
      refine wpH_call 6 (oi := { dst := some 106, op := Op.call { callee := Callee.value (Operand.func 30), args := #[Operand.tmp 105], argTypes := #[22] }, type := 3, pos := "theorems.go:51", after := #[{ on := 5, ground := Ground.data }, { on := 3, ground := Ground.chain }], guard := none }) rfl (by kernel_rfl) (by rfl) (hmm _ (HM.out.keep (hb8.trans (hS.mono hb8.size)))) ?_ ?_
      · (go_simp; try rfl)
      rintro e w' ⟨rfl, hbx⟩
      refine ⟨_, rfl, hS.trans (hbx.mono hS.size), ?_⟩
      replace hS := hS.trans (hbx.mono hS.size)
      try simp only [Act.put, List.setIfInBounds_toArray, List.set_cons_zero, List.set_cons_succ]
      (refine wpH_pure 7 ?_ (oi := { dst := some 107, op := Op.binOp BinOp.gtr 3 (Operand.tmp 103) (Operand.tmp 106) 3, type := 4, pos := "theorems.go:51", after := #[{ on := 3, ground := Ground.data }, { on := 6, ground := Ground.data }], guard := none }) rfl (by kernel_rfl) (by kernel_rfl) (by kernel_rfl) (by rfl) hS (fun _ _ _ h => h) ?_ ?_; rotate_left; focus (intro w; go_simp; try with_reducible rfl))
      try simp only [Act.put, List.setIfInBounds_toArray, List.set_cons_zero, List.set_cons_succ]
      (refine wpH_pure 8 ?_ (oi := { dst := some 108, op := Op.move (Operand.tmp 107), type := 4, pos := "theorems.go:51", after := #[{ on := 7, ground := Ground.data }, { on := 6, ground := Ground.chain }], guard := none }) rfl (by kernel_rfl) (by kernel_rfl) (by kernel_rfl) (by rfl) hS (fun _ _ _ h => h) ?_ ?_; rotate_left; focus (intro w; go_simp; try with_reducible rfl))
      try simp only [Act.put, List.setIfInBounds_toArray, List.set_cons_zero, List.set_cons_succ]
      (first | (refine wpH_skip 9 (oi := { dst := some 109, op := Op.fieldAddr 25 (Operand.tmp 3) 1, type := 0, pos := "theorems.go:51", after := #[{ on := 8, ground := Ground.guard }], guard := some (8, true) }) rfl (by kernel_rfl) (by kernel_rfl) (by kernel_rfl) (by rfl) hS (fun _ _ _ h => h) ?_) | (refine wpH_pure 9 ?_ (oi := { dst := some 109, op := Op.fieldAddr 25 (Operand.tmp 3) 1, type := 0, pos := "theorems.go:51", after := #[{ on := 8, ground := Ground.guard }], guard := some (8, true) }) rfl (by kernel_rfl) (by kernel_rfl) (by kernel_rfl) (by rfl) hS (fun _ _ _ h => h) ?_ ?_; rotate_left; focus (intro w; go_simp; try with_reducible rfl)))
      try simp only [Act.put, List.setIfInBounds_toArray, List.set_cons_zero, List.set_cons_succ]
      refine wpH_load 10 (.slice ma l.length mc) (oi := { dst := some 110, op := Op.load 22 (Operand.tmp 109), type := 22, pos := "theorems.go:51", after := #[{ on := 9, ground := Ground.data }, { on := 8, ground := Ground.guard }], guard := some (8, true) }) rfl (by kernel_rfl) (by kernel_rfl) (by kernel_rfl) (by rfl) hS (fun _ _ _ h => h) (fun w hb2 => (by have c := (B8.keep hb2).cell 1; go_simp; try rfl)) ?_
      try simp only [Act.put, List.setIfInBounds_toArray, List.set_cons_zero, List.set_cons_succ]
      (first | (refine wpH_skip 11 (oi := { dst := some 111, op := Op.move (Operand.tmp 9), type := 26, pos := "theorems.go:51", after := #[{ on := 8, ground := Ground.guard }], guard := some (8, true) }) rfl (by kernel_rfl) (by kernel_rfl) (by kernel_rfl) (by rfl) hS (fun _ _ _ h => h) ?_) | (refine wpH_pure 11 ?_ (oi := { dst := some 111, op := Op.move (Operand.tmp 9), type := 26, pos := "theorems.go:51", after := #[{ on := 8, ground := Ground.guard }], guard := some (8, true) }) rfl (by kernel_rfl) (by kernel_rfl) (by kernel_rfl) (by rfl) hS (fun _ _ _ h => h) ?_ ?_; rotate_left; focus (intro w; go_simp; try with_reducible rfl)))
      try simp only [Act.put, List.setIfInBounds_toArray, List.set_cons_zero, List.set_cons_succ]
      (first | (refine wpH_skip 14 (oi := { dst := some 114, op := Op.fieldAddr 25 (Operand.tmp 3) 1, type := 0, pos := "theorems.go:51", after := #[{ on := 8, ground := Ground.guard }], guard := some (8, true) }) rfl (by kernel_rfl) (by kernel_rfl) (by kernel_rfl) (by rfl) hS (fun _ _ _ h => h) ?_) | (refine wpH_pure 14 ?_ (oi := { dst := some 114, op := Op.fieldAddr 25 (Operand.tmp 3) 1, type := 0, pos := "theorems.go:51", after := #[{ on := 8, ground := Ground.guard }], guard := some (8, true) }) rfl (by kernel_rfl) (by kernel_rfl) (by kernel_rfl) (by rfl) hS (fun _ _ _ h => h) ?_ ?_; rotate_left; focus (intro w; go_simp; try with_reducible rfl)))
      try simp only [Act.put, List.setIfInBounds_toArray, List.set_cons_zero, List.set_cons_succ]
      refine wpH_load 15 (.slice ma l.length mc) (oi := { dst := some 115, op := Op.load 22 (Operand.tmp 114), type := 22, pos := "theorems.go:51", after := #[{ on := 14, ground := Ground.data }, { on := 8, ground := Ground.guard }], guard := some (8, true) }) rfl (by kernel_rfl) (by kernel_rfl) (by kernel_rfl) (by rfl) hS (fun _ _ _ h => h) (fun w hb2 => (by have c := (B8.keep hb2).cell 1; go_simp; try rfl)) ?_
      try simp only [Act.put, List.setIfInBounds_toArray, List.set_cons_zero, List.set_cons_succ]
      refine wpH_call 12 (oi := { dst := some 112, op := Op.call { callee := Callee.value (Operand.func 29), args := #[Operand.tmp 110, Operand.tmp 111], argTypes := #[22, 26] }, type := 3, pos := "theorems.go:51", after := #[{ on := 10, ground := Ground.data }, { on := 11, ground := Ground.data }, { on := 8, ground := Ground.chain }, { on := 8, ground := Ground.guard }], guard := some (8, true) }) rfl (by kernel_rfl) (by rfl) (hmo _ (HM.out.keep (hb8.trans (hS.mono hb8.size))) (hy8.keep hS)) ?_ ?_
      · (go_simp; try rfl)
      rintro e w' ⟨rfl, hbx⟩
      refine ⟨_, rfl, hS.trans (hbx.mono hS.size), ?_⟩
      replace hS := hS.trans (hbx.mono hS.size)
      try simp only [Act.put, List.setIfInBounds_toArray, List.set_cons_zero, List.set_cons_succ]
      (first | (refine wpH_skip 13 (oi := { dst := some 113, op := Op.binOp BinOp.mul 3 (Operand.const (Value.int IntKind.i64 3)) (Operand.tmp 112) 3, type := 3, pos := "theorems.go:51", after := #[{ on := 12, ground := Ground.data }, { on := 8, ground := Ground.guard }], guard := some (8, true) }) rfl (by kernel_rfl) (by kernel_rfl) (by kernel_rfl) (by rfl) hS (fun _ _ _ h => h) ?_) | (refine wpH_pure 13 ?_ (oi := { dst := some 113, op := Op.binOp BinOp.mul 3 (Operand.const (Value.int IntKind.i64 3)) (Operand.tmp 112) 3, type := 3, pos := "theorems.go:51", after := #[{ on := 12, ground := Ground.data }, { on := 8, ground := Ground.guard }], guard := some (8, true) }) rfl (by kernel_rfl) (by kernel_rfl) (by kernel_rfl) (by rfl) hS (fun _ _ _ h => h) ?_ ?_; rotate_left; focus (intro w; go_simp; try with_reducible rfl)))
      try simp only [Act.put, List.setIfInBounds_toArray, List.set_cons_zero, List.set_cons_succ]
      refine wpH_call 16 (oi := { dst := some 116, op := Op.call { callee := Callee.value (Operand.func 31), args := #[Operand.tmp 115], argTypes := #[22] }, type := 3, pos := "theorems.go:51", after := #[{ on := 15, ground := Ground.data }, { on := 12, ground := Ground.chain }, { on := 8, ground := Ground.guard }], guard := some (8, true) }) rfl (by kernel_rfl) (by rfl) (hmt _ (HM.out.keep (hb8.trans (hS.mono hb8.size)))) ?_ ?_
      · (go_simp; try rfl)
      rintro e w' ⟨rfl, hbx⟩
      refine ⟨_, rfl, hS.trans (hbx.mono hS.size), ?_⟩
      replace hS := hS.trans (hbx.mono hS.size)
      try simp only [Act.put, List.setIfInBounds_toArray, List.set_cons_zero, List.set_cons_succ]
      (first | (refine wpH_skip 17 (oi := { dst := some 117, op := Op.binOp BinOp.gtr 3 (Operand.tmp 113) (Operand.tmp 116) 3, type := 4, pos := "theorems.go:51", after := #[{ on := 13, ground := Ground.data }, { on := 16, ground := Ground.data }, { on := 8, ground := Ground.guard }], guard := some (8, true) }) rfl (by kernel_rfl) (by kernel_rfl) (by kernel_rfl) (by rfl) hS (fun _ _ _ h => h) ?_) | (refine wpH_pure 17 ?_ (oi := { dst := some 117, op := Op.binOp BinOp.gtr 3 (Operand.tmp 113) (Operand.tmp 116) 3, type := 4, pos := "theorems.go:51", after := #[{ on := 13, ground := Ground.data }, { on := 16, ground := Ground.data }, { on := 8, ground := Ground.guard }], guard := some (8, true) }) rfl (by kernel_rfl) (by kernel_rfl) (by kernel_rfl) (by rfl) hS (fun _ _ _ h => h) ?_ ?_; rotate_left; focus (intro w; go_simp; try with_reducible rfl)))
      try simp only [Act.put, List.setIfInBounds_toArray, List.set_cons_zero, List.set_cons_succ]
      (refine wpH_pure 18 ?_ (oi := { dst := some 118, op := Op.pick (Operand.tmp 108) (Operand.tmp 117) (Operand.const (Value.bool false)), type := 4, pos := "theorems.go:51", after := #[{ on := 8, ground := Ground.data }, { on := 17, ground := Ground.data }], guard := none }) rfl (by kernel_rfl) (by kernel_rfl) (by kernel_rfl) (by rfl) hS (fun _ _ _ h => h) ?_ ?_; rotate_left; focus (intro w; go_simp; try with_reducible rfl))
      try simp only [Act.put, List.setIfInBounds_toArray, List.set_cons_zero, List.set_cons_succ]
      (refine wpH_pure 19 ?_ (oi := { dst := some 6, op := Op.assign (Operand.tmp 118), type := 4, pos := "theorems.go:51", after := #[{ on := 18, ground := Ground.data }, { on := 16, ground := Ground.chain }, { on := 0, ground := Ground.phase }, { on := 1, ground := Ground.phase }, { on := 2, ground := Ground.phase }, { on := 3, ground := Ground.phase }, { on := 4, ground := Ground.phase }, { on := 5, ground := Ground.phase }, { on := 6, ground := Ground.phase }, { on := 7, ground := Ground.phase }, { on := 8, ground := Ground.phase }, { on := 9, ground := Ground.phase }, { on := 10, ground := Ground.phase }, { on := 11, ground := Ground.phase }, { on := 12, ground := Ground.phase }, { on := 13, ground := Ground.phase }, { on := 14, ground := Ground.phase }, { on := 15, ground := Ground.phase }, { on := 16, ground := Ground.phase }, { on := 17, ground := Ground.phase }, { on := 18, ground := Ground.phase }], guard := none }) rfl (by kernel_rfl) (by kernel_rfl) (by kernel_rfl) (by rfl) hS (fun _ _ _ h => h) ?_ ?_; rotate_left; focus (intro w; go_simp; try with_reducible rfl))
      try simp only [Act.put, List.setIfInBounds_toArray, List.set_cons_zero, List.set_cons_succ]
      refine wpAnyH_done (by kernel_rfl) ?_ _
      go_wp2_with fail
      all_goals (go_ret; exact ⟨rfl, hb8.trans (hS.mono hb8.size)⟩)
end Go.Proofs.YtbnjhfkmdejeaaaDoor
