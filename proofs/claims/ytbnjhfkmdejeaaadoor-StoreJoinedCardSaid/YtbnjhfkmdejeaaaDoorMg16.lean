/- Table, ShaC, Marks. -/
import Derived.Test.YtbnjhfkmdejeaaaDoorMg6
import Derived.Test.YtbnjhfkmdejeaaaDoorMg12
import Derived.Test.YtbnjhfkmdejeaaaDoorMg14
import Derived.Test.YtbnjhfkmdejeaaaDoorMg15
set_option linter.unnecessarySimpa false

/- A table behind at most 30 steps: the document's mark, the steps, and its signatures. -/
set_option linter.unusedSimpArgs false
set_option linter.unusedVariables false
namespace Go.Proofs.YtbnjhfkmdejeaaaDoor
open Go.RowKit Pl

set_option maxRecDepth 100000 in
set_option maxHeartbeats 400000 in
theorem rtag_any (tag : Int) (w : World) : Calls Tryd.prog 43 #[.int .i64 (tag)] w fun e w' => e = .returned (.bool (tagC tag)) ∧ Below w.heap.size w w' := by
  unfold tagC
  by_cases h5 : tag = 5
  · subst h5
    go_enter Tryd.func43, Tryd.ntmps43
    go_wp2_with fail
    all_goals (go_ret; exact ⟨by simp, Below.refl _ _⟩)
  · have e5 : (tag == 5) = false := by simpa using h5
    by_cases h6 : tag = 6
    · subst h6
      go_enter Tryd.func43, Tryd.ntmps43
      go_wp2_with fail
      all_goals (go_ret; exact ⟨by simp, Below.refl _ _⟩)
    · have e6 : (tag == 6) = false := by simpa using h6
      go_enter Tryd.func43, Tryd.ntmps43
      go_wp2_with fail
      all_goals (go_ret; exact ⟨by simp [h5, h6], Below.refl _ _⟩)
set_option maxRecDepth 100000 in
set_option maxHeartbeats 400000 in
theorem rmark_any (tag : Int) (s : Bs) (hsm : s.length ≤ 9223372036854775807) (w : World) :
    Calls Tryd.prog 15 #[.int .i64 (tag), .string ⟨List.toArray (s)⟩] w fun e w' => e = .returned (.tuple #[.string ⟨List.toArray ((markP tag s).1)⟩, .int .i64 ((markP tag s).2)]) ∧ Below w.heap.size w w' := by
  have htg := rtag_any tag
  cases ht : tagC tag
  · rw [show markP tag s = ([], 1) from by simp [markP, ht]]
    rw [ht] at htg
    go_enter Tryd.func15, Tryd.ntmps15
    go_wp2_with fail
    refine (htg _).mono ?_
    rintro e w1 ⟨rfl, hb⟩
    go_wp2_with fail
    all_goals (go_ret2; exact ⟨rfl, hb⟩)
  · rw [ht] at htg
    by_cases hl : s.length = 32
    · rw [show markP tag s = (tagP tag.toNat s, 0) from by simp [markP, ht, hl]]
      have hl1 : ((s.length : Int) != 32) = false := by simp; omega
      obtain ⟨t, rfl, ht1⟩ : ∃ t : Nat, tag = t ∧ (t = 5 ∨ t = 6) := by
        simp [tagC] at ht
        rcases ht with rfl | rfl
        · exact ⟨5, rfl, .inl rfl⟩
        · exact ⟨6, rfl, .inr rfl⟩
      rw [Int.toNat_natCast]
      have hd := fun w => tagged_any t (by omega) s (by omega) w
      have HL := Lib.hid hl
      clear ht hl
      go_enter Tryd.func15, Tryd.ntmps15
      go_wp2_with fail
      refine (htg _).mono ?_
      rintro e w1 ⟨rfl, hb⟩
      go_wp2_with fail
      refine (hd _).mono ?_
      rintro e w2 ⟨rfl, hb2⟩
      go_wp2_with fail
      all_goals (go_ret2; exact ⟨rfl, hb.trans (hb2.mono hb.size)⟩)
    · rw [show markP tag s = ([], 3) from by simp [markP, ht, hl]]
      have hl1 : ((s.length : Int) != 32) = true := by simp; omega
      go_enter Tryd.func15, Tryd.ntmps15
      go_wp2_with fail
      refine (htg _).mono ?_
      rintro e w1 ⟨rfl, hb⟩
      go_wp2_with fail
      all_goals (go_ret2; exact ⟨rfl, hb⟩)

theorem GRow.mono {w : World} {b b' : Nat} {v : Value} {l : List Sg} (h : GRow w b v l) (hb : b' ≤ b) : GRow w b' v l := by
  refine ⟨h.1, h.2.imp id ?_⟩
  rintro ⟨g, cap, cur, hv, h1, h2⟩
  exact ⟨g, cap, cur, hv, Nat.le_trans hb h1, h2⟩
theorem wpH_startB {P : Program} {id : Nat} {ops : Array Oper} {Q : Exit → Act → World → Prop} {a : Act} {w : World} (B : Nat) (hm : P.follows .mixedOrders = true)
    (h : Below B w w.drew → wpAnyH P .any ops Q (Below B w) ops.size (Array.replicate ops.size false) a w.drew) : (Code.region id ops true).wp P Q a w :=
  wp_region_held_drew hm (Below.refl _ _).drew h

theorem markP_len (tag : Int) (s : Bs) : (Pl.markP tag s).1.length ≤ 32 := by
  unfold Pl.markP
  split
  · simp
  · split
    · simp
    · exact Nat.le_of_eq (tagP_len _ _)

namespace Pl
/-- One step. -/
def stepT (L : List Sg) (x : Stp) : List Sg := if (markP x.1 x.2.2.1).2 = 0 then (signL L x.2.1 (markP x.1 x.2.2.1).1 (!x.2.2.2)).1 else L
def stepsT (l : List Stp) : List Sg := l.foldl stepT []
theorem signL_len (L : List Sg) (who mark : Bs) (h : Bool) : (signL L who mark h).1.length ≤ L.length + 1 := by
  unfold signL
  split
  · simp
  · split
    · simp
    · split
      · simp
      · split <;> simp
theorem stepT_len (L : List Sg) (x : Stp) : (stepT L x).length ≤ L.length + 1 := by
  unfold stepT
  split
  · exact signL_len _ _ _ _
  · omega
theorem stepsT_len (l : List Stp) : (stepsT l).length ≤ l.length := by
  have : ∀ (l : List Stp) (L : List Sg), (l.foldl stepT L).length ≤ L.length + l.length := by
    intro l
    induction l with
    | nil => intro L; simp
    | cons x r ih => intro L; have := ih (stepT L x); have := stepT_len L x; simp only [List.foldl_cons, List.length_cons]; omega
  have h := this l []
  unfold stepsT
  simpa using h
theorem takeT (l : List Stp) (i : Nat) (hi : i < l.length) : l.take (i + 1) = l.take i ++ [l.getD i stp0] := by
  rw [List.take_succ_eq_append_getElem hi, List.getD_eq_getElem?_getD, List.getElem?_eq_getElem hi]
  rfl
theorem stepsT_take (l : List Stp) (i : Nat) (hi : i < l.length) : stepsT (l.take (i + 1)) = stepT (stepsT (l.take i)) (l.getD i stp0) := by
  rw [takeT l i hi]
  unfold stepsT
  rw [List.foldl_append]
  rfl
end Pl

set_option maxRecDepth 100000 in
set_option maxHeartbeats 1000000 in
theorem table_any (v : Value) (l : List Stp) (hsh : TShort l) (w : World) (hv : TS w v l) :
    Calls Tryd.prog 12 #[v] w fun e w' => ∃ (p : Nat) (x : Value) (M : List Sg), e = .returned (.tuple #[.pointer (some ⟨p, 0, none⟩), x]) ∧ Tab w' w.heap.size p (stepsT (l.take 30)) ∧ GRow w' w.heap.size x M ∧ M.Perm (stepsT (l.take 30)) ∧ SortedS M ∧ Below w.heap.size w w' := by
  have hsm := hv.small
  obtain ⟨a, c, rfl⟩ := hv.form
  have HV := Lib.hid hv
  clear hv
  have HS := Lib.hid hsh
  clear hsh
  go_enter Tryd.func12, Tryd.ntmps12
  go_wp2_with fail
  refine (onew_any w).mono ?_
  rintro e w0 ⟨rfl, hT0, hb0⟩
  generalize hp : w.heap.size + 1 = p at *
  go_wp2_with fail
  go_loopw [5, 6, 7] (fun s5 s6 s7 wr => ∃ (n : Nat), s5 = .int .i64 (n) ∧ n ≤ 30 ∧ n ≤ l.length ∧ Tab wr w.heap.size p (stepsT (l.take n)) ∧ Below w.heap.size w wr) (fun s5 _ _ _ => l.length + 30 - (intOf s5).toNat)
  case atStart => exact ⟨0, rfl, Nat.zero_le _, Nat.zero_le _, by simpa [stepsT] using hT0, hb0⟩
  case round =>
    obtain ⟨n, rfl, hn, hnl, hT, hb⟩ := hrel
    clear hT0 hb0
    have hend : (n = 30 ∨ n = l.length) → l.take n = l.take 30 := by
      rintro (h | h)
      · rw [h]
      · rw [h, List.take_of_length_le (Nat.le_refl _), List.take_of_length_le (by omega)]
    by_cases h1 : n < l.length
    · have d1 : decide ((n : Int) < (l.length : Int)) = true := by simp; omega
      by_cases h2 : n < 30
      · have d2 : decide ((n : Int) < 30) = true := by simp; omega
        obtain ⟨g, off, cap, hva, hg, c0, c1, c2, c3⟩ := HV.out.at h1
        obtain ⟨l1, l2⟩ := HS.out n h1
        have htake := stepsT_take l n h1
        injection hva with hva _ hvc
        subst hva hvc
        generalize hx : l.getD n stp0 = x at *
        obtain ⟨tag, who, sum, dis⟩ := x
        clear hx
        simp only at c0 c1 c2 c3 l1 l2
        replace c0 : ∀ w', Below w.heap.size w w' → w'.cell? ⟨g, off + n * 4, none⟩ = some (.int .i64 (tag)) := fun w' h => (h.cell (p := ⟨g, off + n * 4, none⟩) hg).trans c0
        replace c1 : ∀ w', Below w.heap.size w w' → w'.cell? ⟨g, off + n * 4 + 1, none⟩ = some (.string ⟨List.toArray (who)⟩) := fun w' h => (h.cell (p := ⟨g, off + n * 4 + 1, none⟩) hg).trans c1
        replace c2 : ∀ w', Below w.heap.size w w' → w'.cell? ⟨g, off + n * 4 + 2, none⟩ = some (.string ⟨List.toArray (sum)⟩) := fun w' h => (h.cell (p := ⟨g, off + n * 4 + 2, none⟩) hg).trans c2
        replace c3 : ∀ w', Below w.heap.size w w' → w'.cell? ⟨g, off + n * 4 + 3, none⟩ = some (.bool dis) := fun w' h => (h.cell (p := ⟨g, off + n * 4 + 3, none⟩) hg).trans c3
        have hb2 : 0 ≤ (n : Int) ∧ (n : Int) < (l.length : Int) := by omega
        unfold maxLen at l1 l2
        go_wp2_with fail
        refine wpH_start (by kernel_rfl) (fun hS => ?_)
        (refine wpH_pure 0 ?_ (oi := { dst := some 22, op := Op.move (Operand.tmp 0), type := 23, pos := "law.go:33", after := #[], guard := none }) rfl (by kernel_rfl) (by kernel_rfl) (by kernel_rfl) (by rfl) hS (fun _ _ _ h => h) ?_ ?_; rotate_left; focus (intro w; go_simp; try with_reducible rfl))
        try simp only [Act.put, List.setIfInBounds_toArray, List.set_cons_zero, List.set_cons_succ]
        (refine wpH_pure 1 ?_ (oi := { dst := some 23, op := Op.move (Operand.tmp 5), type := 3, pos := "law.go:33", after := #[], guard := none }) rfl (by kernel_rfl) (by kernel_rfl) (by kernel_rfl) (by rfl) hS (fun _ _ _ h => h) ?_ ?_; rotate_left; focus (intro w; go_simp; try with_reducible rfl))
        try simp only [Act.put, List.setIfInBounds_toArray, List.set_cons_zero, List.set_cons_succ]
        (refine wpH_pure 2 ?_ (oi := { dst := some 24, op := Op.indexAddr 23 (Operand.tmp 22) (Operand.tmp 23), type := 0, pos := "law.go:33", after := #[{ on := 0, ground := Ground.data }, { on := 1, ground := Ground.data }], guard := none }) rfl (by kernel_rfl) (by kernel_rfl) (by kernel_rfl) (by rfl) hS (fun _ _ _ h => h) ?_ ?_; rotate_left; focus (intro w; go_simp; try with_reducible rfl))
        try simp only [Act.put, List.setIfInBounds_toArray, List.set_cons_zero, List.set_cons_succ]
        (refine wpH_pure 3 ?_ (oi := { dst := some 25, op := Op.fieldAddr 50 (Operand.tmp 24) 0, type := 0, pos := "law.go:33", after := #[{ on := 2, ground := Ground.data }], guard := none }) rfl (by kernel_rfl) (by kernel_rfl) (by kernel_rfl) (by rfl) hS (fun _ _ _ h => h) ?_ ?_; rotate_left; focus (intro w; go_simp; try with_reducible rfl))
        try simp only [Act.put, List.setIfInBounds_toArray, List.set_cons_zero, List.set_cons_succ]
        refine wpH_load 4 (.int .i64 (tag)) (oi := { dst := some 26, op := Op.load 3 (Operand.tmp 25), type := 3, pos := "law.go:33", after := #[{ on := 3, ground := Ground.data }], guard := none }) rfl (by kernel_rfl) (by kernel_rfl) (by kernel_rfl) (by rfl) hS (fun _ _ _ h => h) (fun w hb2 => (by have c := c0 w (hb.trans (hb2.mono hb.size)); go_simp; try rfl)) ?_
        try simp only [Act.put, List.setIfInBounds_toArray, List.set_cons_zero, List.set_cons_succ]
        (refine wpH_pure 5 ?_ (oi := { dst := some 27, op := Op.move (Operand.tmp 0), type := 23, pos := "law.go:33", after := #[], guard := none }) rfl (by kernel_rfl) (by kernel_rfl) (by kernel_rfl) (by rfl) hS (fun _ _ _ h => h) ?_ ?_; rotate_left; focus (intro w; go_simp; try with_reducible rfl))
        try simp only [Act.put, List.setIfInBounds_toArray, List.set_cons_zero, List.set_cons_succ]
        (refine wpH_pure 6 ?_ (oi := { dst := some 28, op := Op.move (Operand.tmp 5), type := 3, pos := "law.go:33", after := #[], guard := none }) rfl (by kernel_rfl) (by kernel_rfl) (by kernel_rfl) (by rfl) hS (fun _ _ _ h => h) ?_ ?_; rotate_left; focus (intro w; go_simp; try with_reducible rfl))
        try simp only [Act.put, List.setIfInBounds_toArray, List.set_cons_zero, List.set_cons_succ]
        (refine wpH_pure 7 ?_ (oi := { dst := some 29, op := Op.indexAddr 23 (Operand.tmp 27) (Operand.tmp 28), type := 0, pos := "law.go:33", after := #[{ on := 5, ground := Ground.data }, { on := 6, ground := Ground.data }], guard := none }) rfl (by kernel_rfl) (by kernel_rfl) (by kernel_rfl) (by rfl) hS (fun _ _ _ h => h) ?_ ?_; rotate_left; focus (intro w; go_simp; try with_reducible rfl))
        try simp only [Act.put, List.setIfInBounds_toArray, List.set_cons_zero, List.set_cons_succ]
        (refine wpH_pure 8 ?_ (oi := { dst := some 30, op := Op.fieldAddr 50 (Operand.tmp 29) 2, type := 0, pos := "law.go:33", after := #[{ on := 7, ground := Ground.data }], guard := none }) rfl (by kernel_rfl) (by kernel_rfl) (by kernel_rfl) (by rfl) hS (fun _ _ _ h => h) ?_ ?_; rotate_left; focus (intro w; go_simp; try with_reducible rfl))
        try simp only [Act.put, List.setIfInBounds_toArray, List.set_cons_zero, List.set_cons_succ]
        refine wpH_load 9 (.string ⟨List.toArray (sum)⟩) (oi := { dst := some 31, op := Op.load 9 (Operand.tmp 30), type := 9, pos := "law.go:33", after := #[{ on := 8, ground := Ground.data }], guard := none }) rfl (by kernel_rfl) (by kernel_rfl) (by kernel_rfl) (by rfl) hS (fun _ _ _ h => h) (fun w hb2 => (by have c := c2 w (hb.trans (hb2.mono hb.size)); go_simp; try rfl)) ?_
        try simp only [Act.put, List.setIfInBounds_toArray, List.set_cons_zero, List.set_cons_succ]
        refine wpH_call 10 (oi := { dst := some 32, op := Op.call { callee := Callee.value (Operand.func 15), args := #[Operand.tmp 26, Operand.tmp 31], argTypes := #[3, 9] }, type := 37, pos := "law.go:33", after := #[{ on := 4, ground := Ground.data }, { on := 9, ground := Ground.data }], guard := none }) rfl (by kernel_rfl) (by rfl) (rmark_any tag sum (by omega) _) ?_ ?_
        · (go_simp; try rfl)
        rintro e w' ⟨rfl, hbx⟩
        refine ⟨_, rfl, hS.trans (hbx.mono hS.size), ?_⟩
        replace hS := hS.trans (hbx.mono hS.size)
        try simp only [Act.put, List.setIfInBounds_toArray, List.set_cons_zero, List.set_cons_succ]
        (refine wpH_pure 11 ?_ (oi := { dst := some 21, op := Op.move (Operand.tmp 32), type := 37, pos := "law.go:33", after := #[{ on := 10, ground := Ground.data }], guard := none }) rfl (by kernel_rfl) (by kernel_rfl) (by kernel_rfl) (by rfl) hS (fun _ _ _ h => h) ?_ ?_; rotate_left; focus (intro w; go_simp; try with_reducible rfl))
        try simp only [Act.put, List.setIfInBounds_toArray, List.set_cons_zero, List.set_cons_succ]
        (refine wpH_pure 12 ?_ (oi := { dst := some 33, op := Op.extract (Operand.tmp 21) 0, type := 9, pos := "law.go:33", after := #[{ on := 11, ground := Ground.data }], guard := none }) rfl (by kernel_rfl) (by kernel_rfl) (by kernel_rfl) (by rfl) hS (fun _ _ _ h => h) ?_ ?_; rotate_left; focus (intro w; go_simp; try with_reducible rfl))
        try simp only [Act.put, List.setIfInBounds_toArray, List.set_cons_zero, List.set_cons_succ]
        (refine wpH_pure 13 ?_ (oi := { dst := some 34, op := Op.extract (Operand.tmp 21) 1, type := 36, pos := "law.go:33", after := #[{ on := 11, ground := Ground.data }, { on := 14, ground := Ground.gcOnly Departure.lateStores }], guard := none }) rfl (by kernel_rfl) (by kernel_rfl) (by kernel_rfl) (by rfl) hS (fun _ _ _ h => h) ?_ ?_; rotate_left; focus (intro w; go_simp; try with_reducible rfl))
        try simp only [Act.put, List.setIfInBounds_toArray, List.set_cons_zero, List.set_cons_succ]
        (refine wpH_pure 14 ?_ (oi := { dst := some 6, op := Op.assign (Operand.tmp 33), type := 9, pos := "law.go:33", after := #[{ on := 12, ground := Ground.data }, { on := 10, ground := Ground.chain }, { on := 0, ground := Ground.phase }, { on := 1, ground := Ground.phase }, { on := 2, ground := Ground.phase }, { on := 3, ground := Ground.phase }, { on := 4, ground := Ground.phase }, { on := 5, ground := Ground.phase }, { on := 6, ground := Ground.phase }, { on := 7, ground := Ground.phase }, { on := 8, ground := Ground.phase }, { on := 9, ground := Ground.phase }, { on := 10, ground := Ground.phase }, { on := 11, ground := Ground.phase }, { on := 12, ground := Ground.phase }, { on := 13, ground := Ground.textOnly Departure.lateStores }], guard := none }) rfl (by kernel_rfl) (by kernel_rfl) (by kernel_rfl) (by rfl) hS (fun _ _ _ h => h) ?_ ?_; rotate_left; focus (intro w; go_simp; try with_reducible rfl))
        try simp only [Act.put, List.setIfInBounds_toArray, List.set_cons_zero, List.set_cons_succ]
        (refine wpH_pure 15 ?_ (oi := { dst := some 7, op := Op.assign (Operand.tmp 34), type := 36, pos := "law.go:33", after := #[{ on := 13, ground := Ground.data }, { on := 14, ground := Ground.chain }, { on := 0, ground := Ground.phase }, { on := 1, ground := Ground.phase }, { on := 2, ground := Ground.phase }, { on := 3, ground := Ground.phase }, { on := 4, ground := Ground.phase }, { on := 5, ground := Ground.phase }, { on := 6, ground := Ground.phase }, { on := 7, ground := Ground.phase }, { on := 8, ground := Ground.phase }, { on := 9, ground := Ground.phase }, { on := 10, ground := Ground.phase }, { on := 11, ground := Ground.phase }, { on := 12, ground := Ground.phase }, { on := 13, ground := Ground.phase }, { on := 14, ground := Ground.phase }], guard := none }) rfl (by kernel_rfl) (by kernel_rfl) (by kernel_rfl) (by rfl) hS (fun _ _ _ h => h) ?_ ?_; rotate_left; focus (intro w; go_simp; try with_reducible rfl))
        try simp only [Act.put, List.setIfInBounds_toArray, List.set_cons_zero, List.set_cons_succ]
        refine wpAnyH_done (by kernel_rfl) ?_ _
        have hb3 := hb.trans (hS.mono hb.size)
        have hT3 := hT.keep hS
        clear hT hS hb
        have htk : stepsT (l.take (n + 1)) = if (markP tag sum).2 = 0 then (signL (stepsT (l.take n)) who (markP tag sum).1 (!dis)).1 else stepsT (l.take n) := htake
        have hml : (markP tag sum).1.length ≤ 9223372036854775807 := by have := markP_len tag sum; omega
        clear htake
        generalize markP tag sum = mk at *
        obtain ⟨m, z⟩ := mk
        simp only at htk hml
        by_cases hz : z = 0
        · subst hz
          rw [if_pos rfl] at htk
          go_wp2_with fail
          refine wpH_startB (w.heap.size) (by kernel_rfl) (fun hS => ?_)
          (refine wpH_pure 0 ?_ (oi := { dst := some 37, op := Op.move (Operand.tmp 4), type := 31, pos := "law.go:34", after := #[], guard := none }) rfl (by kernel_rfl) (by kernel_rfl) (by kernel_rfl) (by rfl) hS (fun _ _ _ h => h) ?_ ?_; rotate_left; focus (intro w; go_simp; try with_reducible rfl))
          try simp only [Act.put, List.setIfInBounds_toArray, List.set_cons_zero, List.set_cons_succ]
          (refine wpH_pure 1 ?_ (oi := { dst := some 38, op := Op.move (Operand.tmp 0), type := 23, pos := "law.go:34", after := #[], guard := none }) rfl (by kernel_rfl) (by kernel_rfl) (by kernel_rfl) (by rfl) hS (fun _ _ _ h => h) ?_ ?_; rotate_left; focus (intro w; go_simp; try with_reducible rfl))
          try simp only [Act.put, List.setIfInBounds_toArray, List.set_cons_zero, List.set_cons_succ]
          (refine wpH_pure 2 ?_ (oi := { dst := some 39, op := Op.move (Operand.tmp 5), type := 3, pos := "law.go:34", after := #[], guard := none }) rfl (by kernel_rfl) (by kernel_rfl) (by kernel_rfl) (by rfl) hS (fun _ _ _ h => h) ?_ ?_; rotate_left; focus (intro w; go_simp; try with_reducible rfl))
          try simp only [Act.put, List.setIfInBounds_toArray, List.set_cons_zero, List.set_cons_succ]
          (refine wpH_pure 3 ?_ (oi := { dst := some 40, op := Op.indexAddr 23 (Operand.tmp 38) (Operand.tmp 39), type := 0, pos := "law.go:34", after := #[{ on := 1, ground := Ground.data }, { on := 2, ground := Ground.data }], guard := none }) rfl (by kernel_rfl) (by kernel_rfl) (by kernel_rfl) (by rfl) hS (fun _ _ _ h => h) ?_ ?_; rotate_left; focus (intro w; go_simp; try with_reducible rfl))
          try simp only [Act.put, List.setIfInBounds_toArray, List.set_cons_zero, List.set_cons_succ]
          (refine wpH_pure 4 ?_ (oi := { dst := some 41, op := Op.fieldAddr 50 (Operand.tmp 40) 1, type := 0, pos := "law.go:34", after := #[{ on := 3, ground := Ground.data }], guard := none }) rfl (by kernel_rfl) (by kernel_rfl) (by kernel_rfl) (by rfl) hS (fun _ _ _ h => h) ?_ ?_; rotate_left; focus (intro w; go_simp; try with_reducible rfl))
          try simp only [Act.put, List.setIfInBounds_toArray, List.set_cons_zero, List.set_cons_succ]
          refine wpH_load 5 (.string ⟨List.toArray (who)⟩) (oi := { dst := some 42, op := Op.load 9 (Operand.tmp 41), type := 9, pos := "law.go:34", after := #[{ on := 4, ground := Ground.data }], guard := none }) rfl (by kernel_rfl) (by kernel_rfl) (by kernel_rfl) (by rfl) hS (fun _ _ _ h => h) (fun w hb2 => (by have c := c1 w (hb3.trans hb2); go_simp; try rfl)) ?_
          try simp only [Act.put, List.setIfInBounds_toArray, List.set_cons_zero, List.set_cons_succ]
          (refine wpH_pure 6 ?_ (oi := { dst := some 43, op := Op.move (Operand.tmp 6), type := 9, pos := "law.go:34", after := #[], guard := none }) rfl (by kernel_rfl) (by kernel_rfl) (by kernel_rfl) (by rfl) hS (fun _ _ _ h => h) ?_ ?_; rotate_left; focus (intro w; go_simp; try with_reducible rfl))
          try simp only [Act.put, List.setIfInBounds_toArray, List.set_cons_zero, List.set_cons_succ]
          (refine wpH_pure 7 ?_ (oi := { dst := some 44, op := Op.move (Operand.tmp 0), type := 23, pos := "law.go:34", after := #[], guard := none }) rfl (by kernel_rfl) (by kernel_rfl) (by kernel_rfl) (by rfl) hS (fun _ _ _ h => h) ?_ ?_; rotate_left; focus (intro w; go_simp; try with_reducible rfl))
          try simp only [Act.put, List.setIfInBounds_toArray, List.set_cons_zero, List.set_cons_succ]
          (refine wpH_pure 8 ?_ (oi := { dst := some 45, op := Op.move (Operand.tmp 5), type := 3, pos := "law.go:34", after := #[], guard := none }) rfl (by kernel_rfl) (by kernel_rfl) (by kernel_rfl) (by rfl) hS (fun _ _ _ h => h) ?_ ?_; rotate_left; focus (intro w; go_simp; try with_reducible rfl))
          try simp only [Act.put, List.setIfInBounds_toArray, List.set_cons_zero, List.set_cons_succ]
          (refine wpH_pure 9 ?_ (oi := { dst := some 46, op := Op.indexAddr 23 (Operand.tmp 44) (Operand.tmp 45), type := 0, pos := "law.go:34", after := #[{ on := 7, ground := Ground.data }, { on := 8, ground := Ground.data }], guard := none }) rfl (by kernel_rfl) (by kernel_rfl) (by kernel_rfl) (by rfl) hS (fun _ _ _ h => h) ?_ ?_; rotate_left; focus (intro w; go_simp; try with_reducible rfl))
          try simp only [Act.put, List.setIfInBounds_toArray, List.set_cons_zero, List.set_cons_succ]
          (refine wpH_pure 10 ?_ (oi := { dst := some 47, op := Op.fieldAddr 50 (Operand.tmp 46) 3, type := 0, pos := "law.go:34", after := #[{ on := 9, ground := Ground.data }], guard := none }) rfl (by kernel_rfl) (by kernel_rfl) (by kernel_rfl) (by rfl) hS (fun _ _ _ h => h) ?_ ?_; rotate_left; focus (intro w; go_simp; try with_reducible rfl))
          try simp only [Act.put, List.setIfInBounds_toArray, List.set_cons_zero, List.set_cons_succ]
          refine wpH_load 11 (.bool dis) (oi := { dst := some 48, op := Op.load 4 (Operand.tmp 47), type := 4, pos := "law.go:34", after := #[{ on := 10, ground := Ground.data }], guard := none }) rfl (by kernel_rfl) (by kernel_rfl) (by kernel_rfl) (by rfl) hS (fun _ _ _ h => h) (fun w hb2 => (by have c := c3 w (hb3.trans hb2); go_simp; try rfl)) ?_
          try simp only [Act.put, List.setIfInBounds_toArray, List.set_cons_zero, List.set_cons_succ]
          (refine wpH_pure 12 ?_ (oi := { dst := some 49, op := Op.unOp UnOp.not 4 (Operand.tmp 48), type := 4, pos := "law.go:34", after := #[{ on := 11, ground := Ground.data }], guard := none }) rfl (by kernel_rfl) (by kernel_rfl) (by kernel_rfl) (by rfl) hS (fun _ _ _ h => h) ?_ ?_; rotate_left; focus (intro w; go_simp; try with_reducible rfl))
          try simp only [Act.put, List.setIfInBounds_toArray, List.set_cons_zero, List.set_cons_succ]
          refine wpH_call 13 (oi := { dst := some 50, op := Op.call { callee := Callee.value (Operand.func 26), args := #[Operand.tmp 37, Operand.tmp 42, Operand.tmp 43, Operand.tmp 49], argTypes := #[31, 9, 9, 4] }, type := 36, pos := "law.go:34", after := #[{ on := 0, ground := Ground.data }, { on := 5, ground := Ground.data }, { on := 6, ground := Ground.data }, { on := 12, ground := Ground.data }], guard := none }) rfl (by kernel_rfl) (by rfl) (osign_any _ p _ who m (!dis) (by omega) hml _ (hT3.keep (Below.refl _ _).drew)) ?_ ?_
          · (go_simp; try rfl)
          rintro e w' ⟨rfl, hT4, hbx⟩
          refine ⟨_, rfl, hS.trans hbx, ?_⟩
          replace hS := hS.trans hbx
          try simp only [Act.put, List.setIfInBounds_toArray, List.set_cons_zero, List.set_cons_succ]
          refine wpAnyH_done (by kernel_rfl) ?_ _
          go_wp2_with fail
          exact ⟨⟨n + 1, rfl, by omega, by omega, by rw [htk]; exact hT4, hb3.trans hS⟩, by simp [intOf]; omega⟩
        · have ez : (z == 0) = false := by simpa using hz
          rw [if_neg hz] at htk
          go_wp2_with fail
          exact ⟨⟨n + 1, rfl, by omega, by omega, by rw [htk]; exact hT3, hb3⟩, by simp [intOf]; omega⟩
      · have d2 : decide ((n : Int) < 30) = false := by simp; omega
        have hT' := hT
        rw [hend (.inl (by omega))] at hT'
        have hlen : (stepsT (l.take 30)).length ≤ 1000000 := by
          have h3 := stepsT_len (l.take 30)
          have h4 : (l.take 30).length ≤ 30 := by simp; omega
          omega
        go_wp2_with fail
        refine (oall_any _ p _ hlen _ hT').mono ?_
        rintro e w2 ⟨x, M, rfl, hM, hP, hS2, hb2⟩
        go_wp2_with fail
        go_ret2
        exact ⟨p, x, M, rfl, hT'.keep hb2, hM.mono hb.size, hP, hS2, hb.trans (hb2.mono hb.size)⟩
    · have d1 : decide ((n : Int) < (l.length : Int)) = false := by simp; omega
      rw [hend (.inr (by omega))] at hT
      go_wp2_with fail
      have hlen : (stepsT (l.take 30)).length ≤ 1000000 := by
        have h3 := stepsT_len (l.take 30)
        have h4 : (l.take 30).length ≤ 30 := by simp; omega
        omega
      refine (oall_any _ p _ hlen _ hT).mono ?_
      rintro e w2 ⟨x, M, rfl, hM, hP, hS2, hb2⟩
      go_wp2_with fail
      go_ret2
      exact ⟨p, x, M, rfl, hT.keep hb2, hM.mono hb.size, hP, hS2, hb.trans (hb2.mono hb.size)⟩
end Go.Proofs.YtbnjhfkmdejeaaaDoor

/- Sums that are reckoned out: a table of words and of rounds is checked, entry by entry. -/
set_option linter.unusedSimpArgs false
set_option linter.unusedVariables false
namespace Go.Proofs.YtbnjhfkmdejeaaaDoor
open Go.RowKit

def okW (b : Nat → Int) (W : List Int) : Bool := (List.range 64).all fun i => decide (W.getD i 0 = if i < 16 then word4 b i else (W.getD (i - 16) 0 + sg0 (W.getD (i - 15) 0) + W.getD (i - 7) 0 + sg1 (W.getD (i - 2) 0)) % 4294967296)
theorem okW_sch (b : Nat → Int) (W : List Int) (h : okW b W = true) (i : Nat) (hi : i < 64) : sch b i = W.getD i 0 := by
  induction i using Nat.strongRecOn with
  | _ i ih =>
    have h2 := List.all_eq_true.1 h i (by simpa using hi)
    rw [decide_eq_true_iff] at h2
    rw [h2]
    by_cases h16 : i < 16
    · rw [if_pos h16, sch_lo b i h16]
    · rw [if_neg h16, sch_hi b i h16, ih (i - 16) (by omega) (by omega), ih (i - 15) (by omega) (by omega), ih (i - 7) (by omega) (by omega), ih (i - 2) (by omega) (by omega)]
def stL (S : List (List Int)) (n : Nat) : Nat → Int := fun j => (S.getD n []).getD j 0
def okR (g : Nat → Int) (W : List Int) (S : List (List Int)) : Bool :=
  (List.range 8).all (fun j => decide (stL S 0 j = g j)) && (List.range 64).all fun n => (List.range 8).all fun j => decide (stL S (n + 1) j = rnd (kc n) (W.getD n 0) (stL S n) j)
theorem rnd_of (k w : Int) (u v : Nat → Int) (h : ∀ j, j < 8 → u j = v j) : ∀ j, j < 8 → rnd k w u j = rnd k w v j := by
  intro j hj
  unfold rnd
  have h0 := h 0 (by omega)
  have h1 := h 1 (by omega)
  have h2 := h 2 (by omega)
  have h3 := h 3 (by omega)
  have h4 := h 4 (by omega)
  have h5 := h 5 (by omega)
  have h6 := h 6 (by omega)
  have h7 := h 7 (by omega)
  split <;> first | rfl | assumption | (simp only [h0, h1, h2, h3, h4, h5, h6, h7])
theorem okR_rds (g b : Nat → Int) (W : List Int) (S : List (List Int)) (hw : okW b W = true) (h : okR g W S = true) : ∀ n, n ≤ 64 → ∀ j, j < 8 → rds g b n j = stL S n j := by
  unfold okR at h
  rw [Bool.and_eq_true] at h
  intro n
  induction n with
  | zero =>
    intro _ j hj
    have := List.all_eq_true.1 h.1 j (by simpa using hj)
    rw [decide_eq_true_iff] at this
    exact this.symm
  | succ n ih =>
    intro hn j hj
    have h2 := List.all_eq_true.1 h.2 n (by simp; omega)
    have h3 := List.all_eq_true.1 h2 j (by simpa using hj)
    rw [decide_eq_true_iff] at h3
    rw [h3, rds, okW_sch b W hw n (by omega)]
    exact rnd_of _ _ _ _ (ih (by omega)) j hj
/-- The first word of the sum of a text of one block. -/
theorem sum_byte (s : List UInt8) (W : List Int) (S : List (List Int)) (hp : (padP s).length / 64 = 1) (hw : okW (blkB (padP s) 0) W = true) (h : okR firstW W S = true) :
    (sumP s).getD 0 0 = UInt8.ofNat (((stL S 64 0 + firstW 0) % 4294967296 / 16777216 % 256).toNat) := by
  have h1 := okR_rds firstW (blkB (padP s) 0) W S hw h 64 (by omega) 0 (by omega)
  have h2 : (sumP s).getD 0 0 = UInt8.ofNat (byteAt (blkN firstW (padP s) ((padP s).length / 64)) 0).toNat := by simp [sumP, toldP]
  rw [h2, hp]
  show UInt8.ofNat (byteAt (blk firstW (blkB (padP s) 0)) 0).toNat = _
  unfold byteAt blk
  simp only [Nat.zero_div, Nat.zero_mod, if_true]
  rw [h1]
end Go.Proofs.YtbnjhfkmdejeaaaDoor

/- The chapter's example's two marks differ. -/
set_option linter.unusedSimpArgs false
set_option linter.unusedVariables false
namespace Go.Proofs.YtbnjhfkmdejeaaaDoor
open Go.RowKit

def dig7 : List UInt8 := [97, 32, 100, 105, 103, 101, 115, 116, 44, 32, 116, 104, 105, 114, 116, 121, 45, 116, 119, 111, 32, 98, 121, 116, 101, 115, 32, 111, 102, 32, 105, 116]
def wT5 : List Int := [90251364, 1768383859, 1949048948, 1751741044, 2033022071, 1864393337, 1952805664, 1868963945, 1954545664, 0, 0, 0, 0, 0, 0, 264, 939792545, 1484596920, 3166159144, 1557189913, 2037379063, 4060450267, 3584610333, 760044619, 1060462861, 3261030784, 2038024765, 3593526963, 3461143484, 1247997446, 875153991, 2908724223, 148584841, 3343392353, 2605064144, 1376630425, 1524216682, 2832439061, 934885081, 893809816, 2246522168, 1506435955, 2456304703, 92698804, 1328946891, 1877389474, 1110305272, 2668488782, 2306416967, 3630441169, 2864315804, 3917264727, 1738969720, 2980770081, 504775893, 2454791151, 3197702203, 479806366, 481346807, 263418596, 1624167031, 3890894545, 2092465867, 2510185050]
def sT5 : List (List Int) := [[1779033703, 3144134277, 1013904242, 2773480762, 1359893119, 2600822924, 528734635, 1541459225],
  [23701681, 1779033703, 3144134277, 1013904242, 2653487878, 1359893119, 2600822924, 528734635],
  [1211376809, 23701681, 1779033703, 3144134277, 3049833490, 2653487878, 1359893119, 2600822924],
  [3051601116, 1211376809, 23701681, 1779033703, 2169231637, 3049833490, 2653487878, 1359893119],
  [1522519871, 3051601116, 1211376809, 23701681, 2113525232, 2169231637, 3049833490, 2653487878],
  [4264244053, 1522519871, 3051601116, 1211376809, 1450398702, 2113525232, 2169231637, 3049833490],
  [2585997388, 4264244053, 1522519871, 3051601116, 2579704612, 1450398702, 2113525232, 2169231637],
  [371634193, 2585997388, 4264244053, 1522519871, 3383888430, 2579704612, 1450398702, 2113525232],
  [1579099101, 371634193, 2585997388, 4264244053, 3136973150, 3383888430, 2579704612, 1450398702],
  [2898239548, 1579099101, 371634193, 2585997388, 1457608126, 3136973150, 3383888430, 2579704612],
  [2029942519, 2898239548, 1579099101, 371634193, 546801638, 1457608126, 3136973150, 3383888430],
  [3312543827, 2029942519, 2898239548, 1579099101, 3464064442, 546801638, 1457608126, 3136973150],
  [3838940100, 3312543827, 2029942519, 2898239548, 3750631584, 3464064442, 546801638, 1457608126],
  [3463487915, 3838940100, 3312543827, 2029942519, 3034742050, 3750631584, 3464064442, 546801638],
  [3766709782, 3463487915, 3838940100, 3312543827, 1489718900, 3034742050, 3750631584, 3464064442],
  [644613919, 3766709782, 3463487915, 3838940100, 1104955344, 1489718900, 3034742050, 3750631584],
  [320840098, 644613919, 3766709782, 3463487915, 3490889737, 1104955344, 1489718900, 3034742050],
  [1658239895, 320840098, 644613919, 3766709782, 400964947, 3490889737, 1104955344, 1489718900],
  [2273597022, 1658239895, 320840098, 644613919, 3871881986, 400964947, 3490889737, 1104955344],
  [988159906, 2273597022, 1658239895, 320840098, 1534009216, 3871881986, 400964947, 3490889737],
  [3980295098, 988159906, 2273597022, 1658239895, 4055967123, 1534009216, 3871881986, 400964947],
  [2194729702, 3980295098, 988159906, 2273597022, 2525702682, 4055967123, 1534009216, 3871881986],
  [3370624374, 2194729702, 3980295098, 988159906, 4048144893, 2525702682, 4055967123, 1534009216],
  [1526929330, 3370624374, 2194729702, 3980295098, 3319256603, 4048144893, 2525702682, 4055967123],
  [2728875935, 1526929330, 3370624374, 2194729702, 2652198603, 3319256603, 4048144893, 2525702682],
  [3836707843, 2728875935, 1526929330, 3370624374, 3553532124, 2652198603, 3319256603, 4048144893],
  [3411368463, 3836707843, 2728875935, 1526929330, 1248926724, 3553532124, 2652198603, 3319256603],
  [3375510648, 3411368463, 3836707843, 2728875935, 3385508631, 1248926724, 3553532124, 2652198603],
  [2301993847, 3375510648, 3411368463, 3836707843, 155893600, 3385508631, 1248926724, 3553532124],
  [1990519056, 2301993847, 3375510648, 3411368463, 1654799168, 155893600, 3385508631, 1248926724],
  [3156575084, 1990519056, 2301993847, 3375510648, 4155993426, 1654799168, 155893600, 3385508631],
  [140969133, 3156575084, 1990519056, 2301993847, 1930584746, 4155993426, 1654799168, 155893600],
  [3955373157, 140969133, 3156575084, 1990519056, 1030692990, 1930584746, 4155993426, 1654799168],
  [1088316423, 3955373157, 140969133, 3156575084, 1041105923, 1030692990, 1930584746, 4155993426],
  [3359289082, 1088316423, 3955373157, 140969133, 2986117968, 1041105923, 1030692990, 1930584746],
  [1717935162, 3359289082, 1088316423, 3955373157, 1989114677, 2986117968, 1041105923, 1030692990],
  [1053021161, 1717935162, 3359289082, 1088316423, 4224491097, 1989114677, 2986117968, 1041105923],
  [157807106, 1053021161, 1717935162, 3359289082, 4230746352, 4224491097, 1989114677, 2986117968],
  [1402636280, 157807106, 1053021161, 1717935162, 1609278766, 4230746352, 4224491097, 1989114677],
  [1922960072, 1402636280, 157807106, 1053021161, 2080634550, 1609278766, 4230746352, 4224491097],
  [887583430, 1922960072, 1402636280, 157807106, 3980233823, 2080634550, 1609278766, 4230746352],
  [126335126, 887583430, 1922960072, 1402636280, 395199607, 3980233823, 2080634550, 1609278766],
  [4139245025, 126335126, 887583430, 1922960072, 3088556301, 395199607, 3980233823, 2080634550],
  [3337315146, 4139245025, 126335126, 887583430, 3037442096, 3088556301, 395199607, 3980233823],
  [2061275453, 3337315146, 4139245025, 126335126, 3803858351, 3037442096, 3088556301, 395199607],
  [3822267859, 2061275453, 3337315146, 4139245025, 1329794496, 3803858351, 3037442096, 3088556301],
  [3339439537, 3822267859, 2061275453, 3337315146, 782293, 1329794496, 3803858351, 3037442096],
  [2426944440, 3339439537, 3822267859, 2061275453, 1077806371, 782293, 1329794496, 3803858351],
  [4101235264, 2426944440, 3339439537, 3822267859, 1388633055, 1077806371, 782293, 1329794496],
  [1274740235, 4101235264, 2426944440, 3339439537, 2064639824, 1388633055, 1077806371, 782293],
  [256180223, 1274740235, 4101235264, 2426944440, 1006175790, 2064639824, 1388633055, 1077806371],
  [2386796081, 256180223, 1274740235, 4101235264, 2678202809, 1006175790, 2064639824, 1388633055],
  [2560952388, 2386796081, 256180223, 1274740235, 3782318240, 2678202809, 1006175790, 2064639824],
  [1698855194, 2560952388, 2386796081, 256180223, 852181845, 3782318240, 2678202809, 1006175790],
  [710252301, 1698855194, 2560952388, 2386796081, 1424990524, 852181845, 3782318240, 2678202809],
  [958342301, 710252301, 1698855194, 2560952388, 4202538492, 1424990524, 852181845, 3782318240],
  [3742957940, 958342301, 710252301, 1698855194, 942301025, 4202538492, 1424990524, 852181845],
  [4098623914, 3742957940, 958342301, 710252301, 3322679742, 942301025, 4202538492, 1424990524],
  [2867804647, 4098623914, 3742957940, 958342301, 398836573, 3322679742, 942301025, 4202538492],
  [1592742674, 2867804647, 4098623914, 3742957940, 6317598, 398836573, 3322679742, 942301025],
  [3627560708, 1592742674, 2867804647, 4098623914, 100445201, 6317598, 398836573, 3322679742],
  [2346755480, 3627560708, 1592742674, 2867804647, 4138244828, 100445201, 6317598, 398836573],
  [2357512074, 2346755480, 3627560708, 1592742674, 3487680021, 4138244828, 100445201, 6317598],
  [2101398585, 2357512074, 2346755480, 3627560708, 3341023181, 3487680021, 4138244828, 100445201],
  [2223105353, 2101398585, 2357512074, 2346755480, 2437812664, 3341023181, 3487680021, 4138244828]]
def wT6 : List Int := [107028580, 1768383859, 1949048948, 1751741044, 2033022071, 1864393337, 1952805664, 1868963945, 1954545664, 0, 0, 0, 0, 0, 0, 264, 956569761, 1484596920, 3166175688, 1557189913, 1640231813, 4060450267, 1396192225, 776821835, 3969217711, 3261031296, 1909064606, 3208962625, 866521655, 1082092883, 165737105, 2334397190, 2492310166, 3701794652, 3986656261, 2047108662, 2765018008, 2145588892, 1450882771, 3418212098, 2551192970, 3180333923, 2770796350, 1436861916, 3384196042, 2965801804, 2030072421, 255146653, 628679617, 2975107019, 722424983, 2820836488, 2299383069, 314198240, 836737477, 1609553385, 1531755685, 3474922313, 2592286207, 1879553286, 8524752, 3895553511, 2581723150, 3289162088]
def sT6 : List (List Int) := [[1779033703, 3144134277, 1013904242, 2773480762, 1359893119, 2600822924, 528734635, 1541459225],
  [40478897, 1779033703, 3144134277, 1013904242, 2670265094, 1359893119, 2600822924, 528734635],
  [3346537645, 40478897, 1779033703, 3144134277, 902603794, 2670265094, 1359893119, 2600822924],
  [4260139511, 3346537645, 40478897, 1779033703, 36177889, 902603794, 2670265094, 1359893119],
  [911042527, 4260139511, 3346537645, 40478897, 376152227, 36177889, 902603794, 2670265094],
  [3785760330, 911042527, 4260139511, 3346537645, 632166839, 376152227, 36177889, 902603794],
  [180006553, 3785760330, 911042527, 4260139511, 167711299, 632166839, 376152227, 36177889],
  [3688257963, 180006553, 3785760330, 911042527, 3661111918, 167711299, 632166839, 376152227],
  [2010305238, 3688257963, 180006553, 3785760330, 2140943475, 3661111918, 167711299, 632166839],
  [4129017904, 2010305238, 3688257963, 180006553, 1004716003, 2140943475, 3661111918, 167711299],
  [1694892196, 4129017904, 2010305238, 3688257963, 2762758017, 1004716003, 2140943475, 3661111918],
  [2518339174, 1694892196, 4129017904, 2010305238, 4135460304, 2762758017, 1004716003, 2140943475],
  [4240810723, 2518339174, 1694892196, 4129017904, 3237092478, 4135460304, 2762758017, 1004716003],
  [2476796614, 4240810723, 2518339174, 1694892196, 2534487722, 3237092478, 4135460304, 2762758017],
  [93832078, 2476796614, 4240810723, 2518339174, 1654987604, 2534487722, 3237092478, 4135460304],
  [3587861681, 93832078, 2476796614, 4240810723, 341013510, 1654987604, 2534487722, 3237092478],
  [3314992008, 3587861681, 93832078, 2476796614, 3011414333, 341013510, 1654987604, 2534487722],
  [2944883014, 3314992008, 3587861681, 93832078, 123978050, 3011414333, 341013510, 1654987604],
  [2455305065, 2944883014, 3314992008, 3587861681, 1437123746, 123978050, 3011414333, 341013510],
  [3046115695, 2455305065, 2944883014, 3314992008, 664572036, 1437123746, 123978050, 3011414333],
  [2791763747, 3046115695, 2455305065, 2944883014, 3459336495, 664572036, 1437123746, 123978050],
  [4070042741, 2791763747, 3046115695, 2455305065, 3767948266, 3459336495, 664572036, 1437123746],
  [4001758489, 4070042741, 2791763747, 3046115695, 2307674803, 3767948266, 3459336495, 664572036],
  [1742437623, 4001758489, 4070042741, 2791763747, 2991139938, 2307674803, 3767948266, 3459336495],
  [2423658425, 1742437623, 4001758489, 4070042741, 4236692974, 2991139938, 2307674803, 3767948266],
  [1143280326, 2423658425, 1742437623, 4001758489, 1314234723, 4236692974, 2991139938, 2307674803],
  [1402063640, 1143280326, 2423658425, 1742437623, 1781544113, 1314234723, 4236692974, 2991139938],
  [1502396982, 1402063640, 1143280326, 2423658425, 1713937551, 1781544113, 1314234723, 4236692974],
  [2754833996, 1502396982, 1402063640, 1143280326, 776642146, 1713937551, 1781544113, 1314234723],
  [4180336913, 2754833996, 1502396982, 1402063640, 1424843043, 776642146, 1713937551, 1781544113],
  [1553310342, 4180336913, 2754833996, 1502396982, 3652932755, 1424843043, 776642146, 1713937551],
  [3225864234, 1553310342, 4180336913, 2754833996, 1208095454, 3652932755, 1424843043, 776642146],
  [282439406, 3225864234, 1553310342, 4180336913, 4070253051, 1208095454, 3652932755, 1424843043],
  [3998033205, 282439406, 3225864234, 1553310342, 4037281347, 4070253051, 1208095454, 3652932755],
  [2578164786, 3998033205, 282439406, 3225864234, 3478304237, 4037281347, 4070253051, 1208095454],
  [424804357, 2578164786, 3998033205, 282439406, 3615240130, 3478304237, 4037281347, 4070253051],
  [2625649791, 424804357, 2578164786, 3998033205, 93218884, 3615240130, 3478304237, 4037281347],
  [1194063657, 2625649791, 424804357, 2578164786, 2546588347, 93218884, 3615240130, 3478304237],
  [3447414228, 1194063657, 2625649791, 424804357, 46691408, 2546588347, 93218884, 3615240130],
  [1668597196, 3447414228, 1194063657, 2625649791, 2131450042, 46691408, 2546588347, 93218884],
  [2395713590, 1668597196, 3447414228, 1194063657, 4263967633, 2131450042, 46691408, 2546588347],
  [1415637955, 2395713590, 1668597196, 3447414228, 3209350317, 4263967633, 2131450042, 46691408],
  [1001507249, 1415637955, 2395713590, 1668597196, 3122573593, 3209350317, 4263967633, 2131450042],
  [307607679, 1001507249, 1415637955, 2395713590, 2460297612, 3122573593, 3209350317, 4263967633],
  [2412833137, 307607679, 1001507249, 1415637955, 3130961593, 2460297612, 3122573593, 3209350317],
  [4082273311, 2412833137, 307607679, 1001507249, 3221490573, 3130961593, 2460297612, 3122573593],
  [2186097214, 4082273311, 2412833137, 307607679, 1418923282, 3221490573, 3130961593, 2460297612],
  [358556108, 2186097214, 4082273311, 2412833137, 2662632733, 1418923282, 3221490573, 3130961593],
  [3379402429, 358556108, 2186097214, 4082273311, 1311706417, 2662632733, 1418923282, 3221490573],
  [2242554763, 3379402429, 358556108, 2186097214, 2243963656, 1311706417, 2662632733, 1418923282],
  [2188253203, 2242554763, 3379402429, 358556108, 1739783459, 2243963656, 1311706417, 2662632733],
  [150774848, 2188253203, 2242554763, 3379402429, 75845620, 1739783459, 2243963656, 1311706417],
  [1888836099, 150774848, 2188253203, 2242554763, 3865434599, 75845620, 1739783459, 2243963656],
  [962466518, 1888836099, 150774848, 2188253203, 1689634422, 3865434599, 75845620, 1739783459],
  [347233704, 962466518, 1888836099, 150774848, 4254551257, 1689634422, 3865434599, 75845620],
  [2182609358, 347233704, 962466518, 1888836099, 962834658, 4254551257, 1689634422, 3865434599],
  [2462279890, 2182609358, 347233704, 962466518, 3257635907, 962834658, 4254551257, 1689634422],
  [2266966483, 2462279890, 2182609358, 347233704, 1046658171, 3257635907, 962834658, 4254551257],
  [4048814576, 2266966483, 2462279890, 2182609358, 2951887157, 1046658171, 3257635907, 962834658],
  [3344837319, 4048814576, 2266966483, 2462279890, 1380561322, 2951887157, 1046658171, 3257635907],
  [1289297099, 3344837319, 4048814576, 2266966483, 956017773, 1380561322, 2951887157, 1046658171],
  [3254476385, 1289297099, 3344837319, 4048814576, 849310376, 956017773, 1380561322, 2951887157],
  [2611588470, 3254476385, 1289297099, 3344837319, 1494823262, 849310376, 956017773, 1380561322],
  [4030561160, 2611588470, 3254476385, 1289297099, 2176261486, 1494823262, 849310376, 956017773],
  [2857112724, 4030561160, 2611588470, 3254476385, 264549686, 2176261486, 1494823262, 849310376]]

set_option maxRecDepth 100000 in
theorem w5_ok : okW (blkB (padP (5 :: dig7)) 0) wT5 = true := by decide +kernel
set_option maxRecDepth 100000 in
theorem w6_ok : okW (blkB (padP (6 :: dig7)) 0) wT6 = true := by decide +kernel
set_option maxRecDepth 100000 in
theorem r5_ok : okR firstW wT5 sT5 = true := by decide +kernel
set_option maxRecDepth 100000 in
theorem r6_ok : okR firstW wT6 sT6 = true := by decide +kernel
theorem one5 : (padP (5 :: dig7)).length / 64 = 1 := by decide +kernel
theorem one6 : (padP (6 :: dig7)).length / 64 = 1 := by decide +kernel
theorem marks_differ : tagP 5 dig7 ≠ tagP 6 dig7 := by
  intro h
  have h5 := sum_byte (5 :: dig7) wT5 sT5 one5 w5_ok r5_ok
  have h6 := sum_byte (6 :: dig7) wT6 sT6 one6 w6_ok r6_ok
  have h1 : (sumP (5 :: dig7)).getD 0 0 = (sumP (6 :: dig7)).getD 0 0 := congrArg (fun l => l.getD 0 0) h
  rw [h5, h6] at h1
  revert h1
  decide +kernel
end Go.Proofs.YtbnjhfkmdejeaaaDoor
