/- TStale. -/
import Derived.Test.YthgjdaomcpinaaaGreatDoorMg27
import Derived.Test.YthgjdaomcpinaaaGreatDoorMi2
import Derived.Test.YthgjdaomcpinaaaGreatDoorMi4
set_option linter.unnecessarySimpa false

/- Trusted no more: the law's walk. Printed by mktstale.py. -/
set_option linter.unusedSimpArgs false
set_option linter.unusedVariables false
namespace Go.Proofs.YthgjdaomcpinaaaGreatDoor
open Go.RowKit Go.WideMaps Go.Maps Go.Sort Go.Shelf Pl

theorem firstC_none (L : List Int) : firstC none L ≠ 0 := by cases L <;> simp [firstC]
theorem TL.ofBlock {w : World} {k : Nat} {t : Tr} {sk ms : Value} {ty : TypeId} (hh : w.heap[k]? = some (.cells (tcs t sk ms).toArray ty)) (r1 : SS w sk t.head.skips) (r2 : MS w ms t.set) (p1 : PlainS sk) (p2 : PlainS ms) : TL w (.slice (some ⟨k, 0, none⟩) 1 1) [t] := by
  have hlt : k < w.heap.size := (Array.getElem?_eq_some_iff.1 hh).1
  refine ⟨_, _, rfl, Nat.le_refl _, by unfold maxLen; omega, fun _ => ⟨_, 0, rfl, hlt, fun i t' hi => ?_⟩⟩
  have h0 : i = 0 := by
    have := (List.getElem?_eq_some_iff.1 hi).1
    simp at this
    exact this
  subst h0
  simp only [List.getElem?_cons_zero, Option.some.injEq] at hi
  subst hi
  refine ⟨_, _, ?_, r1, r2, p1, p2⟩
  intro j u hj
  rw [Nat.zero_mul, Nat.zero_add]
  simp [World.cell?, hh]
  simpa using hj
set_option maxRecDepth 100000 in
set_option maxHeartbeats 8000000 in
theorem truststale_any (v : Value) (l : List (Int × Int)) (span k now : Int) (hsp : -9223372036854775808 ≤ span ∧ span ≤ 9223372036854775807) (hk : -9223372036854775808 ≤ k ∧ k ≤ 9223372036854775807) (hnow : -9223372036854775808 ≤ now ∧ now ≤ 9223372036854775807) (w : World) (hv : PS w v l) (hkt : KT w) :
    Calls Tryz.prog 6 #[v, .int .i64 (span), .agg #[.int .i64 (k), .int .i64 (now)]] w fun e w' => e = .returned (.bool true) ∧ Below w.heap.size w w' := by
  obtain ⟨a, cap, rfl⟩ := hv.form
  have hls := hv.small
  have B0 : Blk (w.alloc (.cells #[.int .i64 (k), .int .i64 (now)] 39)) w.heap.size #[.int .i64 (k), .int .i64 (now)] := Blk.new _ _ _
  have hb0 : Below w.heap.size w (w.alloc (.cells #[.int .i64 (k), .int .i64 (now)] 39)) := Below.allocS (Below.refl _ _) _
  have HV := Lib.hid hv
  have HK := Lib.hid hkt
  clear hv hkt
  obtain ⟨b1, b2, b3⟩ := id B0
  go_enter Tryz.func6, Tryz.ntmps6
  go_wp2_with fail
  refine wp_held rfl (by kernel_rfl) ?_
  (refine wpQ_pure (by rfl) ?_ ?_ ?_; rotate_left; focus (intro w; go_simp; try with_reducible rfl))
  try simp only [Act.put, List.setIfInBounds_toArray, List.set_cons_zero, List.set_cons_succ]
  refine wpQ_load (by rfl) (.int .i64 (k)) (fun w hb => (by have c := (B0.keep hb).cell 0; go_simp; try rfl)) ?_
  try simp only [Act.put, List.setIfInBounds_toArray, List.set_cons_zero, List.set_cons_succ]
  (refine wpQ_pure (by rfl) ?_ ?_ ?_; rotate_left; focus (intro w; go_simp; try with_reducible rfl))
  try simp only [Act.put, List.setIfInBounds_toArray, List.set_cons_zero, List.set_cons_succ]
  refine wpQ_load (by rfl) (.int .i64 (now)) (fun w hb => (by have c := (B0.keep hb).cell 1; go_simp; try rfl)) ?_
  try simp only [Act.put, List.setIfInBounds_toArray, List.set_cons_zero, List.set_cons_succ]
  (refine wpQ_pure (by rfl) ?_ ?_ ?_; rotate_left; focus (intro w; go_simp; try with_reducible rfl))
  try simp only [Act.put, List.setIfInBounds_toArray, List.set_cons_zero, List.set_cons_succ]
  (refine wpQ_pure (by rfl) ?_ ?_ ?_; rotate_left; focus (intro w; go_simp; try with_reducible rfl))
  try simp only [Act.put, List.setIfInBounds_toArray, List.set_cons_zero, List.set_cons_succ]
  intro w1 hS
  have hb1 := hb0.trans (hS.mono hb0.size)
  clear hS b1 b2 b3 B0 hb0
  have q1 := tworks_any w1 (HK.out.keep hb1)
  go_wp2_with fail
  refine q1.mono ?_
  rintro e w2 ⟨rfl, hb⟩
  have hb2 := hb1.trans (hb.mono hb1.size)
  clear q1 hb hb1
  have q2 := dnew_any 524288 (by omega) (by omega) w2
  go_wp2_with fail
  refine q2.mono ?_
  rintro e w3 ⟨rfl, hD, hb⟩
  have hb3 := hb2.trans (hb.mono hb2.size)
  have hs3 := hb.size
  have hpl : w2.heap.size < w3.heap.size := by
    obtain ⟨_, _, h⟩ := hD.row
    exact h.lt
  clear q2 hb
  by_cases hr : span < 1 ∨ 1099511627776 < span
  · have q3 := topen_range (.pointer (some ⟨w2.heap.size, 0, none⟩)) span hr w3
    clear hD
    by_cases h1 : span < 1
    · have d0 : decide (span < 1) = true := by simpa using h1
      clear hr h1
      go_wp2_with fail
      refine q3.mono ?_
      rintro e w4 ⟨rfl, rfl⟩
      go_wp2_with fail
      all_goals (go_ret; exact ⟨rfl, hb3⟩)
    · have d0 : decide (span < 1) = false := by simpa using h1
      have d1 : decide (1099511627776 < span) = true := by simp; omega
      clear hr h1
      go_wp2_with fail
      refine q3.mono ?_
      rintro e w4 ⟨rfl, rfl⟩
      go_wp2_with fail
      all_goals (go_ret; exact ⟨rfl, hb3⟩)
  · have hs1 : 1 ≤ span := by omega
    have hs2 : span ≤ 1099511627776 := by omega
    have q3 := topen_empty [w2.heap.size] w2.heap.size ⟨[], 0, 524288, -1, false⟩ span hs1 hs2 rfl (by simp) (by rfl) w3 hD
    rw [show (syncD ⟨[], 0, 524288, -1, false⟩).1 = ⟨[], 0, 524288, -1, false⟩ from by rfl] at q3
    have hsz2 := hb2.size
    clear hD hr
    go_wp2_with fail
    refine q3.mono ?_
    rintro e w4 ⟨j, m, q, rfl, hj, hjm, hmq, hJ, hD, ho, hQ, m4⟩
    have hb4 := Below.mod hb3 m4 hb3.size (by simp; omega)
    have hql := hQ.lt
    have hM : TrM w4 w4.heap.size m [] := TrM.nil ho
    obtain ⟨p, hp⟩ : ∃ p, p = w2.heap.size := ⟨_, rfl⟩
    rw [← hp] at hJ hD hpl ⊢
    have hpw : w.heap.size ≤ p := by omega
    obtain ⟨base, hbs⟩ : ∃ base, base = w4.heap.size := ⟨_, rfl⟩
    rw [← hbs] at hM
    have hpj : p < j := by omega
    clear q3 ho m4 hb3 hb2 hp hpl hs3
    by_cases hbig : 20 < l.length
    · have d0 : decide (20 < (l.length : Int)) = true := by simp; omega
      go_wp2_with fail
      all_goals (go_ret; exact ⟨rfl, hb4⟩)
    · have d0 : decide (20 < (l.length : Int)) = false := by simp; omega
      by_cases hneg : now < 0
      · have d1 : decide (now < 0) = true := by simpa using hneg
        go_wp2_with fail
        all_goals (go_ret; exact ⟨rfl, hb4⟩)
      · have d1 : decide (now < 0) = false := by simpa using hneg
        have HJ := Lib.hid hJ
        have HD := Lib.hid hD
        have HQ := Lib.hid hQ
        have HM := Lib.hid hM
        clear hJ hD hQ hM
        have hbase : base ≤ w4.heap.size := by omega
        have hqb : q < base := by omega
        clear hbs hql
        go_wp2_with fail
        go_loopw [64] (fun s64 wr => ∃ (i : Nat) (T : List (Int × Tr)) (d : Dk) (m1 : Nat), i ≤ l.length ∧ s64 = .int .i64 (i) ∧ Hid (TInv T) ∧ T.length ≤ i ∧ Hid (DkOk d (500 * i)) ∧ Hid (TrM wr base m1 T) ∧ Hid (DkV wr [q, m, j, p] p d) ∧ Hid (Blk wr j #[.pointer (some ⟨p, 0, none⟩), .bool false]) ∧ Hid (Blk wr q #[.map (some m1), .int .i64 (span), .pointer (some ⟨j, 0, none⟩)]) ∧ Below w.heap.size w wr ∧ w4.heap.size ≤ wr.heap.size) (fun s64 _ => l.length - (intOf s64).toNat)
        case atStart => exact ⟨0, [], _, m, by omega, rfl, Lib.hid TInv.nil, by simp, Lib.hid ⟨rfl, rfl, rfl, by simp⟩, HM, HD, HJ, HQ, hb4, Nat.le_refl _⟩
        case round =>
          obtain ⟨i, T, d, m1, hi, rfl, HT, hTl, HDO, HTM, HDV, HBJ, HBQ, hbr, hsr⟩ := hrel
          clear HM HD HJ HQ hb4
          by_cases hlt : i < l.length
          · have hbd : 0 ≤ (i : Int) ∧ (i : Int) < (l.length : Int) := by omega
            obtain ⟨⟨x1, x2⟩, hx⟩ : ∃ x, l[i]? = some x := ⟨l[i], List.getElem?_eq_getElem hlt⟩
            obtain ⟨g, off, rfl, hg, hR⟩ := HV.out.at i _ hx
            have hR2 := rangeAt_keep hR hg hbr
            simp only at hR2
            obtain ⟨h, hh⟩ : ∃ h : Nat, h = modN x1 9 := ⟨_, rfl⟩
            obtain ⟨c, hc⟩ : ∃ c : Nat, c = modN x2 1000 := ⟨_, rfl⟩
            have hh9 : h < 9 := by rw [hh]; exact modN_lt x1 9 (by omega)
            have hc9 : c < 1000 := by rw [hc]; exact modN_lt x2 1000 (by omega)
            have e1 := fun W => below_any x1 9 (by omega) (by omega) W
            have e2 := fun W => below_any x2 1000 (by omega) (by omega) W
            rw [← hh] at e1
            rw [← hc] at e2
            obtain ⟨t, ht⟩ : ∃ t, t = someT h c := ⟨_, rfl⟩
            have hsome := fun (W : World) (hk : KT W) => some_any (h : Int) (c : Int) W (by omega) (by omega) hk
            rw [← ht] at hsome
            obtain ⟨d', hadd, hdo⟩ := add_one HDO.out (by omega) HT.out (h := (h : Int)) (a := (c : Int)) (by omega) (by omega) (by omega) (by omega)
            rw [← ht] at hadd
            have HADD := Lib.hid hadd
            have HDO2 := Lib.hid hdo
            have HT2 : Hid (TInv (putK T (2 * (h : Int) + 1) t)) := Lib.hid (by rw [ht]; exact HT.out.put (by omega) (by omega) (by omega) (by omega))
            have hTl2 := putK_len T (2 * (h : Int) + 1) t
            have HMAY : Hid (mayR (batchT [t]) = true) := Lib.hid (by rw [ht]; exact may_one _ _)
            have HCL : Hid (∀ x ∈ [t], x.head.skips.length ≤ 1000000 ∧ x.set.length ≤ 1000000 ∧ -9223372036854775808 ≤ x.head.height ∧ x.head.height ≤ 9223372036854775807) := Lib.hid (by
              intro x hx
              rw [List.mem_singleton] at hx
              subst hx
              rw [ht]
              have := (HT2.out.sm) 
              refine ⟨?_, ?_, ?_, ?_⟩
              · show ([] : List Bs).length ≤ _; simp
              · show oneA.length ≤ _; decide
              · show _ ≤ 2 * (h : Int) + 1; omega
              · show 2 * (h : Int) + 1 ≤ _; omega)
            generalize putK T (2 * (h : Int) + 1) t = T2 at *
            clear hadd hdo hh hc ht hR hg hx
            go_wp2_with (first | (refine wpList_rowLoadAt row_two rfl (.tmp 66) rfl rfl rfl hR2 ?_) | (refine wpList_rowStore row_two rfl rfl (.tmp 16) (.tmp 67) rfl rfl rfl (vs := [.int .i64 (x1), .int .i64 (x2)]) rfl (by simp [Value.oneCell']) (us := [.int .i64 (0), .int .i64 (0)]) rfl (Blk.new' (by simp)) ?_; intro w6 N6 m6))
            have hbn := Below.mod (Below.allocS (Below.refl wr.heap.size wr) (.cells #[.int .i64 (0), .int .i64 (0)] 39)) m6 (by simp) (by simp)
            have hb6 := hbr.trans (hbn.mono hbr.size)
            have hs6 := hbn.size
            have HTM6 := HTM.out.keep hbn
            have HDV6 := HDV.out.keep hbn
            have HBJ6 := HBJ.out.keep hbn
            have HBQ6 := HBQ.out.keep hbn
            clear hbn m6 hR2 HTM HDV HBJ HBQ hbr
            have hpb : p < base := by omega
            have hjb : j < base := by omega
            have qadd := fun (W : World) (vv : Value) (hk : KT W) (hav : ∀ x ∈ [q, m, j, p], x < W.heap.size) (hb : base ≤ W.heap.size) (h1 : DkV W [q, m, j, p] p d) (h2 : Blk W j #[.pointer (some ⟨p, 0, none⟩), .bool false]) (h3 : Blk W q #[.map (some m1), .int .i64 (span), .pointer (some ⟨j, 0, none⟩)]) (h4 : TrM W base m1 T) (hv : TL W vv [t]) => tadd_any [q, m, j, p] base p j q m1 span d T vv [t] (by simp) (by omega) HMAY.out ⟨by rw [HDO.out.fuse]; omega, by rw [HDO.out.fuse]; omega⟩ ⟨by rw [HDO.out.room]; omega, by rw [HDO.out.room]; omega⟩ (by have := HDO.out.len; omega) HCL.out W hk h1 h2 (by omega) (by simp) (by simp) hav hpb hjb hqb (by omega) (by omega) hb h3 h4 hv
            rw [HADD.out] at qadd
            simp only at qadd
            refine wpH_startM [p, j, q] (by kernel_rfl) (fun hS => ?_)
            (refine wpH_pure 0 ?_ (oi := { dst := some 68, op := Op.move (Operand.tmp 11), type := 43, pos := "theorems.go:216", after := #[], guard := none }) rfl (by kernel_rfl) (by kernel_rfl) (by kernel_rfl) (by rfl) hS (fun _ _ _ h => h) ?_ ?_; rotate_left; focus (intro w; go_simp; try with_reducible rfl))
            try simp only [Act.put, List.setIfInBounds_toArray, List.set_cons_zero, List.set_cons_succ]
            (refine wpH_pure 1 ?_ (oi := { dst := some 69, op := Op.indexAddr 39 (Operand.tmp 16) (Operand.const (Value.int IntKind.i64 0)), type := 0, pos := "theorems.go:216", after := #[], guard := none }) rfl (by kernel_rfl) (by kernel_rfl) (by kernel_rfl) (by rfl) hS (fun _ _ _ h => h) ?_ ?_; rotate_left; focus (intro w; go_simp; try with_reducible rfl))
            try simp only [Act.put, List.setIfInBounds_toArray, List.set_cons_zero, List.set_cons_succ]
            refine wpH_load 2 (.int .i64 (x1)) (oi := { dst := some 70, op := Op.load 3 (Operand.tmp 69), type := 3, pos := "theorems.go:216", after := #[{ on := 1, ground := Ground.data }], guard := none }) rfl (by kernel_rfl) (by kernel_rfl) (by kernel_rfl) (by rfl) hS (fun _ _ _ h => h) (fun w hb2 => (by have c := (N6.mod hb2 (by simp; omega)).cell 0; go_simp; try rfl)) ?_
            try simp only [Act.put, List.setIfInBounds_toArray, List.set_cons_zero, List.set_cons_succ]
            (refine wpH_pure 4 ?_ (oi := { dst := some 72, op := Op.indexAddr 39 (Operand.tmp 16) (Operand.const (Value.int IntKind.i64 1)), type := 0, pos := "theorems.go:216", after := #[], guard := none }) rfl (by kernel_rfl) (by kernel_rfl) (by kernel_rfl) (by rfl) hS (fun _ _ _ h => h) ?_ ?_; rotate_left; focus (intro w; go_simp; try with_reducible rfl))
            try simp only [Act.put, List.setIfInBounds_toArray, List.set_cons_zero, List.set_cons_succ]
            refine wpH_load 5 (.int .i64 (x2)) (oi := { dst := some 73, op := Op.load 3 (Operand.tmp 72), type := 3, pos := "theorems.go:216", after := #[{ on := 4, ground := Ground.data }], guard := none }) rfl (by kernel_rfl) (by kernel_rfl) (by kernel_rfl) (by rfl) hS (fun _ _ _ h => h) (fun w hb2 => (by have c := (N6.mod hb2 (by simp; omega)).cell 1; go_simp; try rfl)) ?_
            try simp only [Act.put, List.setIfInBounds_toArray, List.set_cons_zero, List.set_cons_succ]
            refine wpH_call 3 (oi := { dst := some 71, op := Op.call { callee := Callee.value (Operand.func 20), args := #[Operand.tmp 70, Operand.const (Value.int IntKind.i64 9)], argTypes := #[3, 3] }, type := 3, pos := "theorems.go:216", after := #[{ on := 2, ground := Ground.data }], guard := none }) rfl (by kernel_rfl) (by rfl) (e1 _) ?_ ?_
            · (go_simp; try rfl)
            rintro e w' ⟨rfl, rfl⟩
            refine ⟨_, rfl, hS, ?_⟩
            try simp only [Act.put, List.setIfInBounds_toArray, List.set_cons_zero, List.set_cons_succ]
            refine wpH_call 6 (oi := { dst := some 74, op := Op.call { callee := Callee.value (Operand.func 20), args := #[Operand.tmp 73, Operand.const (Value.int IntKind.i64 1000)], argTypes := #[3, 3] }, type := 3, pos := "theorems.go:216", after := #[{ on := 5, ground := Ground.data }, { on := 3, ground := Ground.chain }], guard := none }) rfl (by kernel_rfl) (by rfl) (e2 _) ?_ ?_
            · (go_simp; try rfl)
            rintro e w' ⟨rfl, rfl⟩
            refine ⟨_, rfl, hS, ?_⟩
            try simp only [Act.put, List.setIfInBounds_toArray, List.set_cons_zero, List.set_cons_succ]
            refine wpH_call 7 (oi := { dst := some 75, op := Op.call { callee := Callee.value (Operand.func 28), args := #[Operand.tmp 71, Operand.tmp 74], argTypes := #[3, 3] }, type := 27, pos := "theorems.go:216", after := #[{ on := 3, ground := Ground.data }, { on := 6, ground := Ground.data }, { on := 6, ground := Ground.chain }], guard := none }) rfl (by kernel_rfl) (by rfl) (hsome _ (HK.out.keep (Below.mod hb6 hS (by omega) (by simp; omega)))) ?_ ?_
            · (go_simp; try rfl)
            rintro e w' ⟨vt, rfl, ⟨sk, ms, rfl, r1, r2⟩, hbx⟩
            refine ⟨_, rfl, hS.trans (Mod.of_below hbx), ?_⟩
            replace hS := hS.trans (Mod.of_below hbx)
            obtain ⟨ka, kc, rfl⟩ := r1.form
            obtain ⟨ma, mc, rfl⟩ := r2.form
            have hbt := (Below.refl w6.heap.size w6).drew.trans hbx
            have HTM7 := HTM6.keep hbt
            have HDV7 := HDV6.keep hbt
            have HBJ7 := HBJ6.keep hbt
            have HBQ7 := HBQ6.keep hbt
            have hb7 := hb6.trans (hbt.mono (by omega))
            have hs7 := hbt.size
            try simp only [Act.put, List.setIfInBounds_toArray, List.set_cons_zero, List.set_cons_succ]
            refine wpH_op 8 (oi := { dst := some 76, op := Op.buildSlice 48 1 #[(0, Operand.tmp 75)], type := 48, pos := "theorems.go:216", after := #[{ on := 7, ground := Ground.data }], guard := none }) rfl (by kernel_rfl) (by rfl) ?_
            refine wp_newK 27 #[.int .i64 (t.head.height), .int .i64 (t.head.epoch), .int .i64 (t.head.view), .bool t.head.last, .string ⟨List.toArray (t.head.parent)⟩, .string ⟨List.toArray (t.head.state)⟩, .string ⟨List.toArray (t.head.receipts)⟩, .string ⟨List.toArray (t.head.txs)⟩, .string ⟨List.toArray (t.head.members)⟩, .string ⟨List.toArray (t.head.next)⟩, .slice ka t.head.skips.length kc, .slice ma t.set.length mc, .int .i64 (t.at_)] (fun k => .slice (some ⟨k, 0, none⟩) 1 1) (fun w => by go_simp; try rfl) (fun k48 W8 hk48 hh48 hlt48 hbk48 => ?_)
            refine hold_and (hS.trans (Mod.of_below hbk48)) (fun hS => ?_)
            have HTM8 := HTM7.keep hbk48
            have HDV8 := HDV7.keep hbk48
            have HBJ8 := HBJ7.keep hbk48
            have HBQ8 := HBQ7.keep hbk48
            have hb8 := hb7.trans (hbk48.mono (by have := hb7.size; omega))
            have hs8 := hbk48.size
            have r3 := r1.keep hbk48
            have r4 := r2.keep hbk48
            have hTL : TL W8 (.slice (some ⟨k48, 0, none⟩) 1 1) [t] := TL.ofBlock (sk := .slice ka t.head.skips.length kc) (ms := .slice ma t.set.length mc) hh48 r3.ss r4.ms r3.plain r4.plain
            try simp only [Act.put, List.setIfInBounds_toArray, List.set_cons_zero, List.set_cons_succ]
            refine wpH_call 9 (oi := { dst := some 77, op := Op.call { callee := Callee.value (Operand.func 24), args := #[Operand.tmp 68, Operand.tmp 76], argTypes := #[43, 48] }, type := 30, pos := "theorems.go:216", after := #[{ on := 0, ground := Ground.data }, { on := 8, ground := Ground.data }, { on := 7, ground := Ground.chain }], guard := none }) rfl (by kernel_rfl) (by rfl) (qadd _ _ (HK.out.keep hb8) (by intro x hx; simp at hx; omega) (by omega) HDV8 HBJ8 HBQ8 HTM8 hTL) ?_ ?_
            · (go_simp; try rfl)
            rintro e w' ⟨m9, rfl, hQ9, hM9, hD9, hJ9, hm9⟩
            refine ⟨_, rfl, hS.trans hm9, ?_⟩
            replace hS := hS.trans hm9
            have hb9 := Below.mod hb8 hm9 (by omega) (by simp; omega)
            have hs9 := hm9.size
            try simp only [Act.put, List.setIfInBounds_toArray, List.set_cons_zero, List.set_cons_succ]
            (refine wpH_pure 10 ?_ (oi := { dst := some 78, op := Op.binOp BinOp.neq 30 (Operand.tmp 77) (Operand.const (Value.int IntKind.i64 0)) 30, type := 4, pos := "theorems.go:216", after := #[{ on := 9, ground := Ground.data }], guard := none }) rfl (by kernel_rfl) (by kernel_rfl) (by kernel_rfl) (by rfl) hS (fun _ _ _ h => h) ?_ ?_; rotate_left; focus (intro w; go_simp; try with_reducible rfl))
            try simp only [Act.put, List.setIfInBounds_toArray, List.set_cons_zero, List.set_cons_succ]
            refine wpAnyH_done (by kernel_rfl) ?_ _
            go_wp2_with fail
            exact ⟨⟨i + 1, T2, d', m9, by omega, by go_num, HT2, by omega, Lib.hid (by rw [show 500 * (i + 1) = 500 * i + 500 from by omega]; exact HDO2.out), Lib.hid hM9, Lib.hid hD9, Lib.hid hJ9, Lib.hid hQ9, hb9, by omega⟩, by simp [intOf]; omega⟩
          · have hil : i = l.length := by omega
            subst hil
            have hTM := HTM.out
            have hBQ := HBQ.out
            have hTS := HT.out.sm
            have hnd := hTM.nodup
            have q5 := theights_any base q m1 span (.pointer (some ⟨j, 0, none⟩)) T (by omega) wr hTM hBQ
            have HGD := Lib.hid (HT.out.good hnd)
            have HSO := Lib.hid (sortZ_sorted (hts T))
            have HMEM := Lib.hid (fun x (h : x ∈ sortZ (hts T)) => sortZ_mem.1 h)
            have qb := fun (W : World) (h1 : TrM W base m1 T) (h2 : Blk W q #[.map (some m1), .int .i64 (span), .pointer (some ⟨j, 0, none⟩)]) => tbest_any base q m1 span (.pointer (some ⟨j, 0, none⟩)) T now (by omega) hTS hnow ⟨by omega, hs2⟩ W h1 h2
            have qa := fun (W : World) (h1 : TrM W base m1 T) (h2 : Blk W q #[.map (some m1), .int .i64 (span), .pointer (some ⟨j, 0, none⟩)]) => tabove_any base q m1 span (.pointer (some ⟨j, 0, none⟩)) T k now (by omega) hTS hnow ⟨by omega, hs2⟩ W h1 h2
            generalize sortZ (hts T) = Hs at *
            have HND := Lib.hid hnd
            have HTS := Lib.hid hTS
            clear hnd hTS HDO HDV HBJ hi hlt hTl
            go_wp2_with fail
            refine q5.mono ?_
            rintro e w5 ⟨vz, rfl, hz, hb⟩
            have HTM5 := Lib.hid (hTM.keep hb)
            have HBQ5 := Lib.hid (hBQ.keep hb)
            have hb5 := hbr.trans (hb.mono hbr.size)
            have hs5 := hb.size
            obtain ⟨za, zc, rfl⟩ := hz.form
            have HZ := Lib.hid hz.is
            have hzs := hz.is.small
            clear q5 hb hbr hTM hBQ HTM HBQ hz hsr
            go_wp2_with fail
            go_loopw [13, 14, 83] (fun s13 s14 s83 wr => ∃ (i : Nat) (b c : Int), i ≤ Hs.length ∧ s83 = .int .i64 (i) ∧ s13 = .int .i64 (b) ∧ s14 = .int .i64 (c) ∧ Hid (b = bestF T span now (Hs.take i)) ∧ Hid (c = abvF T span now k (Hs.take i)) ∧ Below w5.heap.size w5 wr) (fun _ _ s83 _ => Hs.length - (intOf s83).toNat)
            case atStart => exact ⟨0, -1, -1, by omega, rfl, rfl, rfl, Lib.hid rfl, Lib.hid rfl, Below.refl _ _⟩
            case round =>
              obtain ⟨i, b, c, hi, rfl, rfl, rfl, HBF, HAF, hbr⟩ := hrel
              by_cases hlt : i < Hs.length
              · have hbd : 0 ≤ (i : Int) ∧ (i : Int) < (Hs.length : Int) := by omega
                obtain ⟨g, off, e1, hg, c1⟩ := ((HZ.out).keep hbr).at' i hlt
                subst e1
                have hmem : Hs.getD i 0 ∈ Hs := by rw [List.getD_eq_getElem?_getD, List.getElem?_eq_getElem hlt]; exact List.getElem_mem _
                have HTK : Hid (Hs.take (i + 1) = Hs.take i ++ [Hs.getD i 0]) := Lib.hid (by rw [List.take_add_one, List.getElem?_eq_getElem hlt, List.getD_eq_getElem?_getD, List.getElem?_eq_getElem hlt]; rfl)
                have hkin := HMEM.out _ hmem
                generalize Hs.getD i 0 = hk1 at *
                obtain ⟨t, ht⟩ := hts_mem hkin
                obtain ⟨l1, l2, l3, l4⟩ := HTS.out _ ht
                obtain ⟨y1, y2, y3, y4⟩ := HT.out.at_ ht
                simp only at l1 l2 l3 l4
                have hlk := lookK_in HND.out ht
                have hfr := fresh_some (span := span) (now := now) hlk
                have q6 := fun (W : World) (nw : Int) (hn : -9223372036854775808 ≤ nw ∧ nw ≤ 9223372036854775807) (h1 : TrM W base m1 T) (h2 : Blk W q #[.map (some m1), .int .i64 (span), .pointer (some ⟨j, 0, none⟩)]) => tat_any base q m1 span (.pointer (some ⟨j, 0, none⟩)) T hk1 nw t ⟨l3, l4⟩ hn ⟨by omega, hs2⟩ ht l1 l2 W h1 h2
                have hst0 : staleT span 0 t = false := by unfold staleT; simp; omega
                have HYH := Lib.hid y4
                have wr1 : IntKind.i64.wrap (now - t.at_) = now - t.at_ := by rw [IntKind.wrap_i64]; omega
                have wr2 : wrap64 (now - t.at_) = now - t.at_ := by rw [← IntWalk.i64_left, IntWalk.i64_in _ (by omega)]
                cases hst : staleT span now t
                · rw [hst] at hfr
                  have HB2 : Hid (bestF T span now (Hs.take (i + 1)) = hk1) := Lib.hid (by rw [HTK.out, bestF_snoc, if_pos (by rw [hfr]; rfl)])
                  have HA2 : Hid (abvF T span now k (Hs.take (i + 1)) = if c < 0 ∧ k ≤ hk1 then hk1 else c) := Lib.hid (by rw [HTK.out, abvF_snoc, ← HAF.out, hfr]; simp)
                  have q7 := q6 wr now hnow (HTM5.out.keep hbr) (HBQ5.out.keep hbr)
                  rw [hst] at q7
                  simp only [Bool.false_eq_true, ↓reduceIte] at q7
                  have g1 : decide (span ≤ now - t.at_) = false := by
                    rw [decide_eq_false_iff_not]
                    intro h
                    have : staleT span now t = true := by unfold staleT; simp; omega
                    rw [hst] at this
                    cases this
                  clear hst hfr hlk hkin hmem ht q6 hst0 HBF HAF HTK
                  go_wp2_with fail
                  refine q7.mono ?_
                  rintro e w6 ⟨v6, rfl, ⟨sk, ms, rfl, r1, r2⟩, hb⟩
                  obtain ⟨ka, kc, rfl⟩ := r1.form
                  obtain ⟨ma, mc, rfl⟩ := r2.form
                  have hb6 := hbr.trans (hb.mono hbr.size)
                  clear q7 hb
                  by_cases hcn : c < 0 ∧ k ≤ hk1
                  · have f1 : decide (c < 0) = true := by simpa using hcn.1
                    have f2 : decide (k ≤ hk1) = true := by simpa using hcn.2
                    rw [if_pos hcn] at HA2
                    clear hcn
                    go_wp2_with (first | (refine wpList_rowStore row_trust rfl rfl (.tmp 19) (.tmp 92) rfl rfl rfl (vs := [.int .i64 (t.head.height), .int .i64 (t.head.epoch), .int .i64 (t.head.view), .bool t.head.last, .string ⟨List.toArray (t.head.parent)⟩, .string ⟨List.toArray (t.head.state)⟩, .string ⟨List.toArray (t.head.receipts)⟩, .string ⟨List.toArray (t.head.txs)⟩, .string ⟨List.toArray (t.head.members)⟩, .string ⟨List.toArray (t.head.next)⟩, .slice ka t.head.skips.length kc, .slice ma t.set.length mc, .int .i64 (t.at_)]) rfl (by simp [Value.oneCell']) (us := [.int .i64 (0), .int .i64 (0), .int .i64 (0), .bool false, .string ⟨List.toArray ([])⟩, .string ⟨List.toArray ([])⟩, .string ⟨List.toArray ([])⟩, .string ⟨List.toArray ([])⟩, .string ⟨List.toArray ([])⟩, .string ⟨List.toArray ([])⟩, .slice none 0 0, .slice none 0 0, .int .i64 (0)]) rfl (Blk.new' (by simp)) ?_; intro w7 N7 m7; have hbn := Below.mod (Below.allocS (Below.refl w6.heap.size w6) (.cells #[.int .i64 (0), .int .i64 (0), .int .i64 (0), .bool false, .string ⟨List.toArray ([])⟩, .string ⟨List.toArray ([])⟩, .string ⟨List.toArray ([])⟩, .string ⟨List.toArray ([])⟩, .string ⟨List.toArray ([])⟩, .string ⟨List.toArray ([])⟩, .slice none 0 0, .slice none 0 0, .int .i64 (0)] 27)) m7 (by simp) (by simp); obtain ⟨j1, j2, j3⟩ := id N7))
                    exact ⟨⟨i + 1, hk1, hk1, by omega, by go_num, rfl, rfl, Lib.hid HB2.out.symm, Lib.hid HA2.out.symm, Below.allocS hb6 _⟩, by simp [intOf]; omega⟩
                  · rw [if_neg hcn] at HA2
                    by_cases hc0 : c < 0
                    · have f1 : decide (c < 0) = true := by simpa using hc0
                      have f2 : decide (k ≤ hk1) = false := by rw [decide_eq_false_iff_not]; intro h; exact hcn ⟨hc0, h⟩
                      clear hcn hc0
                      go_wp2_with (first | (refine wpList_rowStore row_trust rfl rfl (.tmp 19) (.tmp 92) rfl rfl rfl (vs := [.int .i64 (t.head.height), .int .i64 (t.head.epoch), .int .i64 (t.head.view), .bool t.head.last, .string ⟨List.toArray (t.head.parent)⟩, .string ⟨List.toArray (t.head.state)⟩, .string ⟨List.toArray (t.head.receipts)⟩, .string ⟨List.toArray (t.head.txs)⟩, .string ⟨List.toArray (t.head.members)⟩, .string ⟨List.toArray (t.head.next)⟩, .slice ka t.head.skips.length kc, .slice ma t.set.length mc, .int .i64 (t.at_)]) rfl (by simp [Value.oneCell']) (us := [.int .i64 (0), .int .i64 (0), .int .i64 (0), .bool false, .string ⟨List.toArray ([])⟩, .string ⟨List.toArray ([])⟩, .string ⟨List.toArray ([])⟩, .string ⟨List.toArray ([])⟩, .string ⟨List.toArray ([])⟩, .string ⟨List.toArray ([])⟩, .slice none 0 0, .slice none 0 0, .int .i64 (0)]) rfl (Blk.new' (by simp)) ?_; intro w7 N7 m7; have hbn := Below.mod (Below.allocS (Below.refl w6.heap.size w6) (.cells #[.int .i64 (0), .int .i64 (0), .int .i64 (0), .bool false, .string ⟨List.toArray ([])⟩, .string ⟨List.toArray ([])⟩, .string ⟨List.toArray ([])⟩, .string ⟨List.toArray ([])⟩, .string ⟨List.toArray ([])⟩, .string ⟨List.toArray ([])⟩, .slice none 0 0, .slice none 0 0, .int .i64 (0)] 27)) m7 (by simp) (by simp); obtain ⟨j1, j2, j3⟩ := id N7))
                      exact ⟨⟨i + 1, hk1, c, by omega, by go_num, rfl, rfl, Lib.hid HB2.out.symm, Lib.hid HA2.out.symm, Below.allocS hb6 _⟩, by simp [intOf]; omega⟩
                    · have f1 : decide (c < 0) = false := by simpa using hc0
                      clear hcn hc0
                      go_wp2_with (first | (refine wpList_rowStore row_trust rfl rfl (.tmp 19) (.tmp 92) rfl rfl rfl (vs := [.int .i64 (t.head.height), .int .i64 (t.head.epoch), .int .i64 (t.head.view), .bool t.head.last, .string ⟨List.toArray (t.head.parent)⟩, .string ⟨List.toArray (t.head.state)⟩, .string ⟨List.toArray (t.head.receipts)⟩, .string ⟨List.toArray (t.head.txs)⟩, .string ⟨List.toArray (t.head.members)⟩, .string ⟨List.toArray (t.head.next)⟩, .slice ka t.head.skips.length kc, .slice ma t.set.length mc, .int .i64 (t.at_)]) rfl (by simp [Value.oneCell']) (us := [.int .i64 (0), .int .i64 (0), .int .i64 (0), .bool false, .string ⟨List.toArray ([])⟩, .string ⟨List.toArray ([])⟩, .string ⟨List.toArray ([])⟩, .string ⟨List.toArray ([])⟩, .string ⟨List.toArray ([])⟩, .string ⟨List.toArray ([])⟩, .slice none 0 0, .slice none 0 0, .int .i64 (0)]) rfl (Blk.new' (by simp)) ?_; intro w7 N7 m7; have hbn := Below.mod (Below.allocS (Below.refl w6.heap.size w6) (.cells #[.int .i64 (0), .int .i64 (0), .int .i64 (0), .bool false, .string ⟨List.toArray ([])⟩, .string ⟨List.toArray ([])⟩, .string ⟨List.toArray ([])⟩, .string ⟨List.toArray ([])⟩, .string ⟨List.toArray ([])⟩, .string ⟨List.toArray ([])⟩, .slice none 0 0, .slice none 0 0, .int .i64 (0)] 27)) m7 (by simp) (by simp); obtain ⟨j1, j2, j3⟩ := id N7))
                      exact ⟨⟨i + 1, hk1, c, by omega, by go_num, rfl, rfl, Lib.hid HB2.out.symm, Lib.hid HA2.out.symm, Below.allocS hb6 _⟩, by simp [intOf]; omega⟩
                · rw [hst] at hfr
                  have HB2 : Hid (bestF T span now (Hs.take (i + 1)) = b) := Lib.hid (by rw [HTK.out, bestF_snoc, if_neg (by rw [hfr]; decide), HBF.out])
                  have HA2 : Hid (abvF T span now k (Hs.take (i + 1)) = c) := Lib.hid (by rw [HTK.out, abvF_snoc, if_neg (by rw [hfr]; simp), HAF.out])
                  have q7 := q6 wr now hnow (HTM5.out.keep hbr) (HBQ5.out.keep hbr)
                  rw [hst] at q7
                  simp only [↓reduceIte] at q7
                  have g1 : decide (now - t.at_ < span) = false := by
                    rw [decide_eq_false_iff_not]
                    unfold staleT at hst
                    simp only [Bool.and_eq_true, decide_eq_true_eq] at hst
                    omega
                  have q8 := fun (W : World) (h1 : TrM W base m1 T) (h2 : Blk W q #[.map (some m1), .int .i64 (span), .pointer (some ⟨j, 0, none⟩)]) => q6 W 0 (by omega) h1 h2
                  rw [hst0] at q8
                  simp only [Bool.false_eq_true, ↓reduceIte] at q8
                  clear hst hfr hlk hkin hmem ht q6 hst0 HBF HAF HTK
                  go_wp2_with fail
                  refine q7.mono ?_
                  rintro e w6 ⟨v6, rfl, rfl, hb⟩
                  have hb6 := hbr.trans (hb.mono hbr.size)
                  clear q7 hb
                  go_wp2_with (first | (refine wpList_rowStore row_trust rfl rfl (.tmp 19) (.tmp 92) rfl rfl rfl (vs := [.int .i64 (0), .int .i64 (0), .int .i64 (0), .bool false, .string ⟨List.toArray ([])⟩, .string ⟨List.toArray ([])⟩, .string ⟨List.toArray ([])⟩, .string ⟨List.toArray ([])⟩, .string ⟨List.toArray ([])⟩, .string ⟨List.toArray ([])⟩, .slice none 0 0, .slice none 0 0, .int .i64 (0)]) rfl (by simp [Value.oneCell']) (us := [.int .i64 (0), .int .i64 (0), .int .i64 (0), .bool false, .string ⟨List.toArray ([])⟩, .string ⟨List.toArray ([])⟩, .string ⟨List.toArray ([])⟩, .string ⟨List.toArray ([])⟩, .string ⟨List.toArray ([])⟩, .string ⟨List.toArray ([])⟩, .slice none 0 0, .slice none 0 0, .int .i64 (0)]) rfl (Blk.new' (by simp)) ?_; intro w7 N7 m7; have hbn := Below.mod (Below.allocS (Below.refl w6.heap.size w6) (.cells #[.int .i64 (0), .int .i64 (0), .int .i64 (0), .bool false, .string ⟨List.toArray ([])⟩, .string ⟨List.toArray ([])⟩, .string ⟨List.toArray ([])⟩, .string ⟨List.toArray ([])⟩, .string ⟨List.toArray ([])⟩, .string ⟨List.toArray ([])⟩, .slice none 0 0, .slice none 0 0, .int .i64 (0)] 27)) m7 (by simp) (by simp); have hb7 := hb6.trans (hbn.mono hb6.size)))
                  refine (q8 w7 (HTM5.out.keep hb7) (HBQ5.out.keep hb7)).mono ?_
                  rintro e w8 ⟨v8, rfl, ⟨sk, ms, rfl, r1, r2⟩, hb⟩
                  obtain ⟨ka, kc, rfl⟩ := r1.form
                  obtain ⟨ma, mc, rfl⟩ := r2.form
                  have hb8 := hb7.trans (hb.mono hb7.size)
                  clear q8 hb hbn hb7 N7 m7
                  go_wp2_with (first | (refine wpList_rowStore row_trust rfl rfl (.tmp 21) (.tmp 100) rfl rfl rfl (vs := [.int .i64 (t.head.height), .int .i64 (t.head.epoch), .int .i64 (t.head.view), .bool t.head.last, .string ⟨List.toArray (t.head.parent)⟩, .string ⟨List.toArray (t.head.state)⟩, .string ⟨List.toArray (t.head.receipts)⟩, .string ⟨List.toArray (t.head.txs)⟩, .string ⟨List.toArray (t.head.members)⟩, .string ⟨List.toArray (t.head.next)⟩, .slice ka t.head.skips.length kc, .slice ma t.set.length mc, .int .i64 (t.at_)]) rfl (by simp [Value.oneCell']) (us := [.int .i64 (0), .int .i64 (0), .int .i64 (0), .bool false, .string ⟨List.toArray ([])⟩, .string ⟨List.toArray ([])⟩, .string ⟨List.toArray ([])⟩, .string ⟨List.toArray ([])⟩, .string ⟨List.toArray ([])⟩, .string ⟨List.toArray ([])⟩, .slice none 0 0, .slice none 0 0, .int .i64 (0)]) rfl (Blk.new' (by simp)) ?_; intro w9 N9 m9; have hbn := Below.mod (Below.allocS (Below.refl w8.heap.size w8) (.cells #[.int .i64 (0), .int .i64 (0), .int .i64 (0), .bool false, .string ⟨List.toArray ([])⟩, .string ⟨List.toArray ([])⟩, .string ⟨List.toArray ([])⟩, .string ⟨List.toArray ([])⟩, .string ⟨List.toArray ([])⟩, .string ⟨List.toArray ([])⟩, .slice none 0 0, .slice none 0 0, .int .i64 (0)] 27)) m9 (by simp) (by simp); obtain ⟨j1, j2, j3⟩ := id N9))
                  exact ⟨⟨i + 1, b, c, by omega, by go_num, rfl, rfl, Lib.hid HB2.out.symm, Lib.hid HA2.out.symm, Below.allocS hb8 _⟩, by simp [intOf]; omega⟩
              · have hil : i = Hs.length := by omega
                subst hil
                rw [List.take_length] at HBF HAF
                have hbl := best_law (span := span) (now := now) Hs.length Hs rfl HGD.out
                have hal := abv_law (span := span) (now := now) (h := k) Hs HSO.out HGD.out
                rw [← HBF.out] at hbl
                rw [← HAF.out] at hal
                have q6 := qb wr (HTM5.out.keep hbr) (HBQ5.out.keep hbr)
                have q7 := fun (W : World) (hb : Below w5.heap.size w5 W) => qa W (HTM5.out.keep hb) (HBQ5.out.keep hb)
                generalize firstT T span now Hs.reverse = o1 at *
                generalize firstT T span now (Hs.drop (Hs.countP (· < k))) = o2 at *
                clear qa qb hi hlt
                rcases hbl with ⟨rfl, rfl⟩ | ⟨t1, rfl, rfl, hp1⟩
                · have hn1 := firstC_none Hs.reverse
                  generalize firstC none Hs.reverse = z1 at *
                  have f1 : (z1 == 0) = false := by simpa using hn1
                  clear hn1
                  rcases hal with ⟨rfl, rfl⟩ | ⟨t2, rfl, rfl, hp2⟩
                  · have hn2 := firstC_none (Hs.drop (Hs.countP (· < k)))
                    generalize firstC none (Hs.drop (Hs.countP (· < k))) = z2 at *
                    have f2 : (z2 == 0) = false := by simpa using hn2
                    clear hn2
                    go_wp2_with fail
                    refine q6.mono ?_
                    rintro e w6 ⟨v6, rfl, hv6, hb⟩
                    have hv6 : v6 = nilT := hv6
                    subst hv6
                    have hb6 := hbr.trans (hb.mono hbr.size)
                    clear q6 hb
                    go_wp2_with (first | (refine wpList_rowStore row_trust rfl rfl (.tmp 23) (.tmp 136) rfl rfl rfl (vs := [.int .i64 (0), .int .i64 (0), .int .i64 (0), .bool false, .string ⟨List.toArray ([])⟩, .string ⟨List.toArray ([])⟩, .string ⟨List.toArray ([])⟩, .string ⟨List.toArray ([])⟩, .string ⟨List.toArray ([])⟩, .string ⟨List.toArray ([])⟩, .slice none 0 0, .slice none 0 0, .int .i64 (0)]) rfl (by simp [Value.oneCell']) (us := [.int .i64 (0), .int .i64 (0), .int .i64 (0), .bool false, .string ⟨List.toArray ([])⟩, .string ⟨List.toArray ([])⟩, .string ⟨List.toArray ([])⟩, .string ⟨List.toArray ([])⟩, .string ⟨List.toArray ([])⟩, .string ⟨List.toArray ([])⟩, .slice none 0 0, .slice none 0 0, .int .i64 (0)]) rfl (Blk.new' (by simp)) ?_; intro w7 N7 m7; have hbn7 := Below.mod (Below.allocS (Below.refl w6.heap.size w6) (.cells #[.int .i64 (0), .int .i64 (0), .int .i64 (0), .bool false, .string ⟨List.toArray ([])⟩, .string ⟨List.toArray ([])⟩, .string ⟨List.toArray ([])⟩, .string ⟨List.toArray ([])⟩, .string ⟨List.toArray ([])⟩, .string ⟨List.toArray ([])⟩, .slice none 0 0, .slice none 0 0, .int .i64 (0)] 27)) m7 (by simp) (by simp); have hb7 := hb6.trans (hbn7.mono hb6.size)))
                    refine (q7 w7 hb7).mono ?_
                    rintro e w8 ⟨v8, rfl, hv8, hb⟩
                    have hb8 := hb7.trans (hb.mono hb7.size)
                    have hv8 : v8 = nilT := hv8
                    subst hv8
                    clear q7 hb
                    go_wp2_with (first | (refine wpList_rowStore row_trust rfl rfl (.tmp 25) (.tmp 143) rfl rfl rfl (vs := [.int .i64 (0), .int .i64 (0), .int .i64 (0), .bool false, .string ⟨List.toArray ([])⟩, .string ⟨List.toArray ([])⟩, .string ⟨List.toArray ([])⟩, .string ⟨List.toArray ([])⟩, .string ⟨List.toArray ([])⟩, .string ⟨List.toArray ([])⟩, .slice none 0 0, .slice none 0 0, .int .i64 (0)]) rfl (by simp [Value.oneCell']) (us := [.int .i64 (0), .int .i64 (0), .int .i64 (0), .bool false, .string ⟨List.toArray ([])⟩, .string ⟨List.toArray ([])⟩, .string ⟨List.toArray ([])⟩, .string ⟨List.toArray ([])⟩, .string ⟨List.toArray ([])⟩, .string ⟨List.toArray ([])⟩, .slice none 0 0, .slice none 0 0, .int .i64 (0)]) rfl (Blk.new' (by simp)) ?_; intro w9 N9 m9; have hbn9 := Below.mod (Below.allocS (Below.refl w8.heap.size w8) (.cells #[.int .i64 (0), .int .i64 (0), .int .i64 (0), .bool false, .string ⟨List.toArray ([])⟩, .string ⟨List.toArray ([])⟩, .string ⟨List.toArray ([])⟩, .string ⟨List.toArray ([])⟩, .string ⟨List.toArray ([])⟩, .string ⟨List.toArray ([])⟩, .slice none 0 0, .slice none 0 0, .int .i64 (0)] 27)) m9 (by simp) (by simp); have hb9 := hb8.trans (hbn9.mono hb8.size)))
                    all_goals (go_ret; exact ⟨rfl, hb5.trans (hb9.mono hb5.size)⟩)
                  · have x1 : decide (0 ≤ t2.head.height) = true := by simpa using hp2
                    have x2 : decide (t2.head.height < 0) = false := by rw [decide_eq_false_iff_not]; omega
                    rw [show firstC (some t2) (Hs.drop (Hs.countP (· < k))) = 0 from rfl] at q7
                    clear hp2
                    go_wp2_with fail
                    refine q6.mono ?_
                    rintro e w6 ⟨v6, rfl, hv6, hb⟩
                    have hv6 : v6 = nilT := hv6
                    subst hv6
                    have hb6 := hbr.trans (hb.mono hbr.size)
                    clear q6 hb
                    go_wp2_with (first | (refine wpList_rowStore row_trust rfl rfl (.tmp 23) (.tmp 136) rfl rfl rfl (vs := [.int .i64 (0), .int .i64 (0), .int .i64 (0), .bool false, .string ⟨List.toArray ([])⟩, .string ⟨List.toArray ([])⟩, .string ⟨List.toArray ([])⟩, .string ⟨List.toArray ([])⟩, .string ⟨List.toArray ([])⟩, .string ⟨List.toArray ([])⟩, .slice none 0 0, .slice none 0 0, .int .i64 (0)]) rfl (by simp [Value.oneCell']) (us := [.int .i64 (0), .int .i64 (0), .int .i64 (0), .bool false, .string ⟨List.toArray ([])⟩, .string ⟨List.toArray ([])⟩, .string ⟨List.toArray ([])⟩, .string ⟨List.toArray ([])⟩, .string ⟨List.toArray ([])⟩, .string ⟨List.toArray ([])⟩, .slice none 0 0, .slice none 0 0, .int .i64 (0)]) rfl (Blk.new' (by simp)) ?_; intro w7 N7 m7; have hbn7 := Below.mod (Below.allocS (Below.refl w6.heap.size w6) (.cells #[.int .i64 (0), .int .i64 (0), .int .i64 (0), .bool false, .string ⟨List.toArray ([])⟩, .string ⟨List.toArray ([])⟩, .string ⟨List.toArray ([])⟩, .string ⟨List.toArray ([])⟩, .string ⟨List.toArray ([])⟩, .string ⟨List.toArray ([])⟩, .slice none 0 0, .slice none 0 0, .int .i64 (0)] 27)) m7 (by simp) (by simp); have hb7 := hb6.trans (hbn7.mono hb6.size)))
                    refine (q7 w7 hb7).mono ?_
                    rintro e w8 ⟨v8, rfl, hv8, hb⟩
                    have hb8 := hb7.trans (hb.mono hb7.size)
                    have hv8 : TRow w8 _ v8 t2 := hv8
                    obtain ⟨sk2, ms2, rfl, r3, r4⟩ := hv8
                    obtain ⟨xa, xc, rfl⟩ := r3.form
                    obtain ⟨ya, yc, rfl⟩ := r4.form
                    clear q7 hb
                    have hb9 := Below.allocS hb8 (.cells #[.int .i64 (t2.head.height), .int .i64 (t2.head.epoch), .int .i64 (t2.head.view), .bool t2.head.last, .string ⟨List.toArray (t2.head.parent)⟩, .string ⟨List.toArray (t2.head.state)⟩, .string ⟨List.toArray (t2.head.receipts)⟩, .string ⟨List.toArray (t2.head.txs)⟩, .string ⟨List.toArray (t2.head.members)⟩, .string ⟨List.toArray (t2.head.next)⟩, .slice xa t2.head.skips.length xc, .slice ya t2.set.length yc, .int .i64 (t2.at_)] 27)
                    have N9 : Blk (w8.alloc (.cells #[.int .i64 (t2.head.height), .int .i64 (t2.head.epoch), .int .i64 (t2.head.view), .bool t2.head.last, .string ⟨List.toArray (t2.head.parent)⟩, .string ⟨List.toArray (t2.head.state)⟩, .string ⟨List.toArray (t2.head.receipts)⟩, .string ⟨List.toArray (t2.head.txs)⟩, .string ⟨List.toArray (t2.head.members)⟩, .string ⟨List.toArray (t2.head.next)⟩, .slice xa t2.head.skips.length xc, .slice ya t2.set.length yc, .int .i64 (t2.at_)] 27)) w8.heap.size #[.int .i64 (t2.head.height), .int .i64 (t2.head.epoch), .int .i64 (t2.head.view), .bool t2.head.last, .string ⟨List.toArray (t2.head.parent)⟩, .string ⟨List.toArray (t2.head.state)⟩, .string ⟨List.toArray (t2.head.receipts)⟩, .string ⟨List.toArray (t2.head.txs)⟩, .string ⟨List.toArray (t2.head.members)⟩, .string ⟨List.toArray (t2.head.next)⟩, .slice xa t2.head.skips.length xc, .slice ya t2.set.length yc, .int .i64 (t2.at_)] := Blk.new _ _ _
                    obtain ⟨i1, i2, i3⟩ := id N9
                    go_wp2_with fail
                    all_goals (go_ret; exact ⟨rfl, hb5.trans (hb9.mono hb5.size)⟩)
                · have u1 : decide (0 ≤ t1.head.height) = true := by simpa using hp1
                  have u2 : decide (t1.head.height < 0) = false := by rw [decide_eq_false_iff_not]; omega
                  rw [show firstC (some t1) Hs.reverse = 0 from rfl] at q6
                  clear hp1
                  rcases hal with ⟨rfl, rfl⟩ | ⟨t2, rfl, rfl, hp2⟩
                  · have hn2 := firstC_none (Hs.drop (Hs.countP (· < k)))
                    generalize firstC none (Hs.drop (Hs.countP (· < k))) = z2 at *
                    have f2 : (z2 == 0) = false := by simpa using hn2
                    clear hn2
                    go_wp2_with fail
                    refine q6.mono ?_
                    rintro e w6 ⟨v6, rfl, hv6, hb⟩
                    have hv6 : TRow w6 _ v6 t1 := hv6
                    obtain ⟨sk, ms, rfl, r1, r2⟩ := hv6
                    obtain ⟨ka, kc, rfl⟩ := r1.form
                    obtain ⟨ma, mc, rfl⟩ := r2.form
                    have hb6 := hbr.trans (hb.mono hbr.size)
                    clear q6 hb
                    have hb7 := Below.allocS hb6 (.cells #[.int .i64 (t1.head.height), .int .i64 (t1.head.epoch), .int .i64 (t1.head.view), .bool t1.head.last, .string ⟨List.toArray (t1.head.parent)⟩, .string ⟨List.toArray (t1.head.state)⟩, .string ⟨List.toArray (t1.head.receipts)⟩, .string ⟨List.toArray (t1.head.txs)⟩, .string ⟨List.toArray (t1.head.members)⟩, .string ⟨List.toArray (t1.head.next)⟩, .slice ka t1.head.skips.length kc, .slice ma t1.set.length mc, .int .i64 (t1.at_)] 27)
                    have N7 : Blk (w6.alloc (.cells #[.int .i64 (t1.head.height), .int .i64 (t1.head.epoch), .int .i64 (t1.head.view), .bool t1.head.last, .string ⟨List.toArray (t1.head.parent)⟩, .string ⟨List.toArray (t1.head.state)⟩, .string ⟨List.toArray (t1.head.receipts)⟩, .string ⟨List.toArray (t1.head.txs)⟩, .string ⟨List.toArray (t1.head.members)⟩, .string ⟨List.toArray (t1.head.next)⟩, .slice ka t1.head.skips.length kc, .slice ma t1.set.length mc, .int .i64 (t1.at_)] 27)) w6.heap.size #[.int .i64 (t1.head.height), .int .i64 (t1.head.epoch), .int .i64 (t1.head.view), .bool t1.head.last, .string ⟨List.toArray (t1.head.parent)⟩, .string ⟨List.toArray (t1.head.state)⟩, .string ⟨List.toArray (t1.head.receipts)⟩, .string ⟨List.toArray (t1.head.txs)⟩, .string ⟨List.toArray (t1.head.members)⟩, .string ⟨List.toArray (t1.head.next)⟩, .slice ka t1.head.skips.length kc, .slice ma t1.set.length mc, .int .i64 (t1.at_)] := Blk.new _ _ _
                    go_wp2_with fail
                    refine (q7 _ hb7).mono ?_
                    rintro e w8 ⟨v8, rfl, hv8, hb⟩
                    have hb8 := hb7.trans (hb.mono hb7.size)
                    have N8 := N7.keep hb
                    have hv8 : v8 = nilT := hv8
                    subst hv8
                    clear q7 hb
                    go_wp2_with (first | (refine wpList_rowStore row_trust rfl rfl (.tmp 25) (.tmp 143) rfl rfl rfl (vs := [.int .i64 (0), .int .i64 (0), .int .i64 (0), .bool false, .string ⟨List.toArray ([])⟩, .string ⟨List.toArray ([])⟩, .string ⟨List.toArray ([])⟩, .string ⟨List.toArray ([])⟩, .string ⟨List.toArray ([])⟩, .string ⟨List.toArray ([])⟩, .slice none 0 0, .slice none 0 0, .int .i64 (0)]) rfl (by simp [Value.oneCell']) (us := [.int .i64 (0), .int .i64 (0), .int .i64 (0), .bool false, .string ⟨List.toArray ([])⟩, .string ⟨List.toArray ([])⟩, .string ⟨List.toArray ([])⟩, .string ⟨List.toArray ([])⟩, .string ⟨List.toArray ([])⟩, .string ⟨List.toArray ([])⟩, .slice none 0 0, .slice none 0 0, .int .i64 (0)]) rfl (Blk.new' (by simp)) ?_; intro w9 N9 m9; have hbn9 := Below.mod (Below.allocS (Below.refl w8.heap.size w8) (.cells #[.int .i64 (0), .int .i64 (0), .int .i64 (0), .bool false, .string ⟨List.toArray ([])⟩, .string ⟨List.toArray ([])⟩, .string ⟨List.toArray ([])⟩, .string ⟨List.toArray ([])⟩, .string ⟨List.toArray ([])⟩, .string ⟨List.toArray ([])⟩, .slice none 0 0, .slice none 0 0, .int .i64 (0)] 27)) m9 (by simp) (by simp); have hb9 := hb8.trans (hbn9.mono hb8.size); have N9b := N8.keep hbn9; obtain ⟨j1, j2, j3⟩ := id N9b))
                    all_goals (go_ret; exact ⟨rfl, hb5.trans (hb9.mono hb5.size)⟩)
                  · have x1 : decide (0 ≤ t2.head.height) = true := by simpa using hp2
                    have x2 : decide (t2.head.height < 0) = false := by rw [decide_eq_false_iff_not]; omega
                    rw [show firstC (some t2) (Hs.drop (Hs.countP (· < k))) = 0 from rfl] at q7
                    clear hp2
                    go_wp2_with fail
                    refine q6.mono ?_
                    rintro e w6 ⟨v6, rfl, hv6, hb⟩
                    have hv6 : TRow w6 _ v6 t1 := hv6
                    obtain ⟨sk, ms, rfl, r1, r2⟩ := hv6
                    obtain ⟨ka, kc, rfl⟩ := r1.form
                    obtain ⟨ma, mc, rfl⟩ := r2.form
                    have hb6 := hbr.trans (hb.mono hbr.size)
                    clear q6 hb
                    have hb7 := Below.allocS hb6 (.cells #[.int .i64 (t1.head.height), .int .i64 (t1.head.epoch), .int .i64 (t1.head.view), .bool t1.head.last, .string ⟨List.toArray (t1.head.parent)⟩, .string ⟨List.toArray (t1.head.state)⟩, .string ⟨List.toArray (t1.head.receipts)⟩, .string ⟨List.toArray (t1.head.txs)⟩, .string ⟨List.toArray (t1.head.members)⟩, .string ⟨List.toArray (t1.head.next)⟩, .slice ka t1.head.skips.length kc, .slice ma t1.set.length mc, .int .i64 (t1.at_)] 27)
                    have N7 : Blk (w6.alloc (.cells #[.int .i64 (t1.head.height), .int .i64 (t1.head.epoch), .int .i64 (t1.head.view), .bool t1.head.last, .string ⟨List.toArray (t1.head.parent)⟩, .string ⟨List.toArray (t1.head.state)⟩, .string ⟨List.toArray (t1.head.receipts)⟩, .string ⟨List.toArray (t1.head.txs)⟩, .string ⟨List.toArray (t1.head.members)⟩, .string ⟨List.toArray (t1.head.next)⟩, .slice ka t1.head.skips.length kc, .slice ma t1.set.length mc, .int .i64 (t1.at_)] 27)) w6.heap.size #[.int .i64 (t1.head.height), .int .i64 (t1.head.epoch), .int .i64 (t1.head.view), .bool t1.head.last, .string ⟨List.toArray (t1.head.parent)⟩, .string ⟨List.toArray (t1.head.state)⟩, .string ⟨List.toArray (t1.head.receipts)⟩, .string ⟨List.toArray (t1.head.txs)⟩, .string ⟨List.toArray (t1.head.members)⟩, .string ⟨List.toArray (t1.head.next)⟩, .slice ka t1.head.skips.length kc, .slice ma t1.set.length mc, .int .i64 (t1.at_)] := Blk.new _ _ _
                    go_wp2_with fail
                    refine (q7 _ hb7).mono ?_
                    rintro e w8 ⟨v8, rfl, hv8, hb⟩
                    have hb8 := hb7.trans (hb.mono hb7.size)
                    have N8 := N7.keep hb
                    have hv8 : TRow w8 _ v8 t2 := hv8
                    obtain ⟨sk2, ms2, rfl, r3, r4⟩ := hv8
                    obtain ⟨xa, xc, rfl⟩ := r3.form
                    obtain ⟨ya, yc, rfl⟩ := r4.form
                    clear q7 hb
                    have hb9 := Below.allocS hb8 (.cells #[.int .i64 (t2.head.height), .int .i64 (t2.head.epoch), .int .i64 (t2.head.view), .bool t2.head.last, .string ⟨List.toArray (t2.head.parent)⟩, .string ⟨List.toArray (t2.head.state)⟩, .string ⟨List.toArray (t2.head.receipts)⟩, .string ⟨List.toArray (t2.head.txs)⟩, .string ⟨List.toArray (t2.head.members)⟩, .string ⟨List.toArray (t2.head.next)⟩, .slice xa t2.head.skips.length xc, .slice ya t2.set.length yc, .int .i64 (t2.at_)] 27)
                    have N9 : Blk (w8.alloc (.cells #[.int .i64 (t2.head.height), .int .i64 (t2.head.epoch), .int .i64 (t2.head.view), .bool t2.head.last, .string ⟨List.toArray (t2.head.parent)⟩, .string ⟨List.toArray (t2.head.state)⟩, .string ⟨List.toArray (t2.head.receipts)⟩, .string ⟨List.toArray (t2.head.txs)⟩, .string ⟨List.toArray (t2.head.members)⟩, .string ⟨List.toArray (t2.head.next)⟩, .slice xa t2.head.skips.length xc, .slice ya t2.set.length yc, .int .i64 (t2.at_)] 27)) w8.heap.size #[.int .i64 (t2.head.height), .int .i64 (t2.head.epoch), .int .i64 (t2.head.view), .bool t2.head.last, .string ⟨List.toArray (t2.head.parent)⟩, .string ⟨List.toArray (t2.head.state)⟩, .string ⟨List.toArray (t2.head.receipts)⟩, .string ⟨List.toArray (t2.head.txs)⟩, .string ⟨List.toArray (t2.head.members)⟩, .string ⟨List.toArray (t2.head.next)⟩, .slice xa t2.head.skips.length xc, .slice ya t2.set.length yc, .int .i64 (t2.at_)] := Blk.new _ _ _
                    obtain ⟨i1, i2, i3⟩ := id N9
                    have N9b := N8.alloc (.cells #[.int .i64 (t2.head.height), .int .i64 (t2.head.epoch), .int .i64 (t2.head.view), .bool t2.head.last, .string ⟨List.toArray (t2.head.parent)⟩, .string ⟨List.toArray (t2.head.state)⟩, .string ⟨List.toArray (t2.head.receipts)⟩, .string ⟨List.toArray (t2.head.txs)⟩, .string ⟨List.toArray (t2.head.members)⟩, .string ⟨List.toArray (t2.head.next)⟩, .slice xa t2.head.skips.length xc, .slice ya t2.set.length yc, .int .i64 (t2.at_)] 27)
                    obtain ⟨j1, j2, j3⟩ := id N9b
                    go_wp2_with fail
                    all_goals (go_ret; exact ⟨rfl, hb5.trans (hb9.mono hb5.size)⟩)
end Go.Proofs.YthgjdaomcpinaaaGreatDoor
