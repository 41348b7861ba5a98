/- TTrims. -/
import Derived.Test.YthgjdaomcpinaaaGreatDoorMi4
import Derived.Test.YthgjdaomcpinaaaGreatDoorMi5
set_option linter.unnecessarySimpa false

/- All but some go: the law's walk. Printed by mkttrims.py. -/
set_option linter.unusedSimpArgs false
set_option linter.unusedVariables false
namespace Go.Proofs.YthgjdaomcpinaaaGreatDoor
open Go.RowKit Go.WideMaps Go.Maps Go.Sort Go.Shelf Pl

theorem ZRow.modl {w w' : World} {b : Nat} {v : Value} {l : List Int} {L : List Nat} (h : ZRow w b v l) (hm : Mod L w w') (hl : ∀ x ∈ L, x < b) : ZRow w' b v l := by
  refine h.kept (fun k hk => hm.block k ?_ ?_)
  · rcases h.cells with ⟨rfl, _⟩ | ⟨g, cap, rfl, _, hg, _⟩
    · cases hk
    · cases hk; exact hg
  · intro hx
    have h1 := h.own k hk
    have h2 := hl k hx
    omega
theorem TInv.key {T : List (Int × Tr)} (hT : TInv T) : ∀ k ∈ hts T, 0 ≤ k ∧ k ≤ 17 := by
  intro k hk
  obtain ⟨t, ht⟩ := hts_mem hk
  obtain ⟨h, a, h0, h1, a0, a1, e⟩ := hT _ ht
  injection e with e1 e2
  omega
theorem met_step {N : List Int} {k : Nat} (h : Int) (hk : k < N.length) : metN N k h = if N.getD k 0 = h then k + 1 else k := by
  unfold metN
  rw [List.getElem?_eq_getElem hk, List.getD_eq_getElem?_getD, List.getElem?_eq_getElem hk]
  by_cases e : N[k] = h
  · rw [if_pos ⟨hk, by rw [e]⟩]; simp [e]
  · rw [if_neg (fun h2 => e (Option.some.inj h2.2))]; simp [e]
set_option maxRecDepth 100000 in
set_option maxHeartbeats 8000000 in
theorem trusttrims_any (v : Value) (l : List (Int × Int)) (most now : Int) (hmo : -9223372036854775808 ≤ most ∧ most ≤ 9223372036854775807) (hnow : -9223372036854775808 ≤ now ∧ now ≤ 9223372036854775807) (w : World) (hv : PS w v l) (hkt : KT w) :
    Calls Tryz.prog 5 #[v, .int .i64 (most), .int .i64 (now)] w fun e w' => e = .returned (.bool true) ∧ Below w.heap.size w w' := by
  obtain ⟨a, cap, rfl⟩ := hv.form
  have hls := hv.small
  have HV := Lib.hid hv
  have HK := Lib.hid hkt
  clear hv hkt
  have q1 := tworks_any w HK.out
  go_enter Tryz.func5, Tryz.ntmps5
  go_wp2_with fail
  refine q1.mono ?_
  rintro e w2 ⟨rfl, hb⟩
  have hb2 := hb
  clear q1 hb
  have q2 := dnew_any 524288 (by omega) (by omega) w2
  go_wp2_with fail
  refine q2.mono ?_
  rintro e w3 ⟨rfl, hD, hb⟩
  have hb3 := hb2.trans (hb.mono hb2.size)
  have hs3 := hb.size
  have hpl : w2.heap.size < w3.heap.size := by
    obtain ⟨_, _, h⟩ := hD.row
    exact h.lt
  clear q2 hb
  have q3 := topen_empty [w2.heap.size] w2.heap.size ⟨[], 0, 524288, -1, false⟩ 10 (by omega) (by omega) rfl (by simp) (by rfl) w3 hD
  rw [show (syncD ⟨[], 0, 524288, -1, false⟩).1 = ⟨[], 0, 524288, -1, false⟩ from by rfl] at q3
  have hsz2 := hb2.size
  clear hD
  go_wp2_with fail
  refine q3.mono ?_
  rintro e w4 ⟨j, m, q, rfl, hj, hjm, hmq, hJ, hD, ho, hQ, m4⟩
  have hb4 := Below.mod hb3 m4 hb3.size (by simp; omega)
  have hql := hQ.lt
  have hM : TrM w4 w4.heap.size m [] := TrM.nil ho
  obtain ⟨p, hp⟩ : ∃ p, p = w2.heap.size := ⟨_, rfl⟩
  rw [← hp] at hJ hD hpl ⊢
  have hpw : w.heap.size ≤ p := by omega
  obtain ⟨base, hbs⟩ : ∃ base, base = w4.heap.size := ⟨_, rfl⟩
  rw [← hbs] at hM
  have hpj : p < j := by omega
  clear q3 ho m4 hb3 hb2 hp hpl hs3
  by_cases hbig : 20 < l.length
  · have d0 : decide (20 < (l.length : Int)) = true := by simp; omega
    go_wp2_with fail
    all_goals (go_ret; exact ⟨rfl, hb4⟩)
  · have d0 : decide (20 < (l.length : Int)) = false := by simp; omega
    by_cases hneg : now < 0
    · have d1 : decide (now < 0) = true := by simpa using hneg
      go_wp2_with fail
      all_goals (go_ret; exact ⟨rfl, hb4⟩)
    · have d1 : decide (now < 0) = false := by simpa using hneg
      have HJ := Lib.hid hJ
      have HD := Lib.hid hD
      have HQ := Lib.hid hQ
      have HM := Lib.hid hM
      clear hJ hD hQ hM
      have hbase : base ≤ w4.heap.size := by omega
      have hqb : q < base := by omega
      clear hbs hql
      go_wp2_with fail
      go_loopw [48] (fun s64 wr => ∃ (i : Nat) (T : List (Int × Tr)) (d : Dk) (m1 : Nat), i ≤ l.length ∧ s64 = .int .i64 (i) ∧ Hid (TInv T) ∧ T.length ≤ i ∧ Hid (DkOk d (500 * i)) ∧ Hid (TrM wr base m1 T) ∧ Hid (DkV wr [q, m, j, p] p d) ∧ Hid (Blk wr j #[.pointer (some ⟨p, 0, none⟩), .bool false]) ∧ Hid (Blk wr q #[.map (some m1), .int .i64 (10), .pointer (some ⟨j, 0, none⟩)]) ∧ Below w.heap.size w wr ∧ w4.heap.size ≤ wr.heap.size) (fun s64 _ => l.length - (intOf s64).toNat)
      case atStart => exact ⟨0, [], _, m, by omega, rfl, Lib.hid TInv.nil, by simp, Lib.hid ⟨rfl, rfl, rfl, by simp⟩, HM, HD, HJ, HQ, hb4, Nat.le_refl _⟩
      case round =>
          obtain ⟨i, T, d, m1, hi, rfl, HT, hTl, HDO, HTM, HDV, HBJ, HBQ, hbr, hsr⟩ := hrel
          clear HM HD HJ HQ hb4
          by_cases hlt : i < l.length
          · have hbd : 0 ≤ (i : Int) ∧ (i : Int) < (l.length : Int) := by omega
            obtain ⟨⟨x1, x2⟩, hx⟩ : ∃ x, l[i]? = some x := ⟨l[i], List.getElem?_eq_getElem hlt⟩
            obtain ⟨g, off, rfl, hg, hR⟩ := HV.out.at i _ hx
            have hR2 := rangeAt_keep hR hg hbr
            simp only at hR2
            obtain ⟨h, hh⟩ : ∃ h : Nat, h = modN x1 9 := ⟨_, rfl⟩
            obtain ⟨c, hc⟩ : ∃ c : Nat, c = modN x2 1000 := ⟨_, rfl⟩
            have hh9 : h < 9 := by rw [hh]; exact modN_lt x1 9 (by omega)
            have hc9 : c < 1000 := by rw [hc]; exact modN_lt x2 1000 (by omega)
            have e1 := fun W => below_any x1 9 (by omega) (by omega) W
            have e2 := fun W => below_any x2 1000 (by omega) (by omega) W
            rw [← hh] at e1
            rw [← hc] at e2
            obtain ⟨t, ht⟩ : ∃ t, t = someT h c := ⟨_, rfl⟩
            have hsome := fun (W : World) (hk : KT W) => some_any (h : Int) (c : Int) W (by omega) (by omega) hk
            rw [← ht] at hsome
            obtain ⟨d', hadd, hdo⟩ := add_one HDO.out (by omega) HT.out (h := (h : Int)) (a := (c : Int)) (by omega) (by omega) (by omega) (by omega)
            rw [← ht] at hadd
            have HADD := Lib.hid hadd
            have HDO2 := Lib.hid hdo
            have HT2 : Hid (TInv (putK T (2 * (h : Int) + 1) t)) := Lib.hid (by rw [ht]; exact HT.out.put (by omega) (by omega) (by omega) (by omega))
            have hTl2 := putK_len T (2 * (h : Int) + 1) t
            have HMAY : Hid (mayR (batchT [t]) = true) := Lib.hid (by rw [ht]; exact may_one _ _)
            have HCL : Hid (∀ x ∈ [t], x.head.skips.length ≤ 1000000 ∧ x.set.length ≤ 1000000 ∧ -9223372036854775808 ≤ x.head.height ∧ x.head.height ≤ 9223372036854775807) := Lib.hid (by
              intro x hx
              rw [List.mem_singleton] at hx
              subst hx
              rw [ht]
              have := (HT2.out.sm) 
              refine ⟨?_, ?_, ?_, ?_⟩
              · show ([] : List Bs).length ≤ _; simp
              · show oneA.length ≤ _; decide
              · show _ ≤ 2 * (h : Int) + 1; omega
              · show 2 * (h : Int) + 1 ≤ _; omega)
            generalize putK T (2 * (h : Int) + 1) t = T2 at *
            clear hadd hdo hh hc ht hR hg hx
            go_wp2_with (first | (refine wpList_rowLoadAt row_two rfl (.tmp 50) rfl rfl rfl hR2 ?_) | (refine wpList_rowStore row_two rfl rfl (.tmp 12) (.tmp 51) rfl rfl rfl (vs := [.int .i64 (x1), .int .i64 (x2)]) rfl (by simp [Value.oneCell']) (us := [.int .i64 (0), .int .i64 (0)]) rfl (Blk.new' (by simp)) ?_; intro w6 N6 m6))
            have hbn := Below.mod (Below.allocS (Below.refl wr.heap.size wr) (.cells #[.int .i64 (0), .int .i64 (0)] 39)) m6 (by simp) (by simp)
            have hb6 := hbr.trans (hbn.mono hbr.size)
            have hs6 := hbn.size
            have HTM6 := HTM.out.keep hbn
            have HDV6 := HDV.out.keep hbn
            have HBJ6 := HBJ.out.keep hbn
            have HBQ6 := HBQ.out.keep hbn
            clear hbn m6 hR2 HTM HDV HBJ HBQ hbr
            have hpb : p < base := by omega
            have hjb : j < base := by omega
            have qadd := fun (W : World) (vv : Value) (hk : KT W) (hav : ∀ x ∈ [q, m, j, p], x < W.heap.size) (hb : base ≤ W.heap.size) (h1 : DkV W [q, m, j, p] p d) (h2 : Blk W j #[.pointer (some ⟨p, 0, none⟩), .bool false]) (h3 : Blk W q #[.map (some m1), .int .i64 (10), .pointer (some ⟨j, 0, none⟩)]) (h4 : TrM W base m1 T) (hv : TL W vv [t]) => tadd_any [q, m, j, p] base p j q m1 10 d T vv [t] (by simp) (by omega) HMAY.out ⟨by rw [HDO.out.fuse]; omega, by rw [HDO.out.fuse]; omega⟩ ⟨by rw [HDO.out.room]; omega, by rw [HDO.out.room]; omega⟩ (by have := HDO.out.len; omega) HCL.out W hk h1 h2 (by omega) (by simp) (by simp) hav hpb hjb hqb (by omega) (by omega) hb h3 h4 hv
            rw [HADD.out] at qadd
            simp only at qadd
            refine wpH_startM [p, j, q] (by kernel_rfl) (fun hS => ?_)
            (refine wpH_pure 0 ?_ (oi := { dst := some 52, op := Op.move (Operand.tmp 9), type := 43, pos := "theorems.go:169", after := #[], guard := none }) rfl (by kernel_rfl) (by kernel_rfl) (by kernel_rfl) (by rfl) hS (fun _ _ _ h => h) ?_ ?_; rotate_left; focus (intro w; go_simp; try with_reducible rfl))
            try simp only [Act.put, List.setIfInBounds_toArray, List.set_cons_zero, List.set_cons_succ]
            (refine wpH_pure 1 ?_ (oi := { dst := some 53, op := Op.indexAddr 39 (Operand.tmp 12) (Operand.const (Value.int IntKind.i64 0)), type := 0, pos := "theorems.go:169", after := #[], guard := none }) rfl (by kernel_rfl) (by kernel_rfl) (by kernel_rfl) (by rfl) hS (fun _ _ _ h => h) ?_ ?_; rotate_left; focus (intro w; go_simp; try with_reducible rfl))
            try simp only [Act.put, List.setIfInBounds_toArray, List.set_cons_zero, List.set_cons_succ]
            refine wpH_load 2 (.int .i64 (x1)) (oi := { dst := some 54, op := Op.load 3 (Operand.tmp 53), type := 3, pos := "theorems.go:169", after := #[{ on := 1, ground := Ground.data }], guard := none }) rfl (by kernel_rfl) (by kernel_rfl) (by kernel_rfl) (by rfl) hS (fun _ _ _ h => h) (fun w hb2 => (by have c := (N6.mod hb2 (by simp; omega)).cell 0; go_simp; try rfl)) ?_
            try simp only [Act.put, List.setIfInBounds_toArray, List.set_cons_zero, List.set_cons_succ]
            (refine wpH_pure 4 ?_ (oi := { dst := some 56, op := Op.indexAddr 39 (Operand.tmp 12) (Operand.const (Value.int IntKind.i64 1)), type := 0, pos := "theorems.go:169", after := #[], guard := none }) rfl (by kernel_rfl) (by kernel_rfl) (by kernel_rfl) (by rfl) hS (fun _ _ _ h => h) ?_ ?_; rotate_left; focus (intro w; go_simp; try with_reducible rfl))
            try simp only [Act.put, List.setIfInBounds_toArray, List.set_cons_zero, List.set_cons_succ]
            refine wpH_load 5 (.int .i64 (x2)) (oi := { dst := some 57, op := Op.load 3 (Operand.tmp 56), type := 3, pos := "theorems.go:169", after := #[{ on := 4, ground := Ground.data }], guard := none }) rfl (by kernel_rfl) (by kernel_rfl) (by kernel_rfl) (by rfl) hS (fun _ _ _ h => h) (fun w hb2 => (by have c := (N6.mod hb2 (by simp; omega)).cell 1; go_simp; try rfl)) ?_
            try simp only [Act.put, List.setIfInBounds_toArray, List.set_cons_zero, List.set_cons_succ]
            refine wpH_call 3 (oi := { dst := some 55, op := Op.call { callee := Callee.value (Operand.func 20), args := #[Operand.tmp 54, Operand.const (Value.int IntKind.i64 9)], argTypes := #[3, 3] }, type := 3, pos := "theorems.go:169", after := #[{ on := 2, ground := Ground.data }], guard := none }) rfl (by kernel_rfl) (by rfl) (e1 _) ?_ ?_
            · (go_simp; try rfl)
            rintro e w' ⟨rfl, rfl⟩
            refine ⟨_, rfl, hS, ?_⟩
            try simp only [Act.put, List.setIfInBounds_toArray, List.set_cons_zero, List.set_cons_succ]
            refine wpH_call 6 (oi := { dst := some 58, op := Op.call { callee := Callee.value (Operand.func 20), args := #[Operand.tmp 57, Operand.const (Value.int IntKind.i64 1000)], argTypes := #[3, 3] }, type := 3, pos := "theorems.go:169", after := #[{ on := 5, ground := Ground.data }, { on := 3, ground := Ground.chain }], guard := none }) rfl (by kernel_rfl) (by rfl) (e2 _) ?_ ?_
            · (go_simp; try rfl)
            rintro e w' ⟨rfl, rfl⟩
            refine ⟨_, rfl, hS, ?_⟩
            try simp only [Act.put, List.setIfInBounds_toArray, List.set_cons_zero, List.set_cons_succ]
            refine wpH_call 7 (oi := { dst := some 59, op := Op.call { callee := Callee.value (Operand.func 28), args := #[Operand.tmp 55, Operand.tmp 58], argTypes := #[3, 3] }, type := 27, pos := "theorems.go:169", after := #[{ on := 3, ground := Ground.data }, { on := 6, ground := Ground.data }, { on := 6, ground := Ground.chain }], guard := none }) rfl (by kernel_rfl) (by rfl) (hsome _ (HK.out.keep (Below.mod hb6 hS (by omega) (by simp; omega)))) ?_ ?_
            · (go_simp; try rfl)
            rintro e w' ⟨vt, rfl, ⟨sk, ms, rfl, r1, r2⟩, hbx⟩
            refine ⟨_, rfl, hS.trans (Mod.of_below hbx), ?_⟩
            replace hS := hS.trans (Mod.of_below hbx)
            obtain ⟨ka, kc, rfl⟩ := r1.form
            obtain ⟨ma, mc, rfl⟩ := r2.form
            have hbt := (Below.refl w6.heap.size w6).drew.trans hbx
            have HTM7 := HTM6.keep hbt
            have HDV7 := HDV6.keep hbt
            have HBJ7 := HBJ6.keep hbt
            have HBQ7 := HBQ6.keep hbt
            have hb7 := hb6.trans (hbt.mono (by omega))
            have hs7 := hbt.size
            try simp only [Act.put, List.setIfInBounds_toArray, List.set_cons_zero, List.set_cons_succ]
            refine wpH_op 8 (oi := { dst := some 60, op := Op.buildSlice 48 1 #[(0, Operand.tmp 59)], type := 48, pos := "theorems.go:169", after := #[{ on := 7, ground := Ground.data }], guard := none }) rfl (by kernel_rfl) (by rfl) ?_
            refine wp_newK 27 #[.int .i64 (t.head.height), .int .i64 (t.head.epoch), .int .i64 (t.head.view), .bool t.head.last, .string ⟨List.toArray (t.head.parent)⟩, .string ⟨List.toArray (t.head.state)⟩, .string ⟨List.toArray (t.head.receipts)⟩, .string ⟨List.toArray (t.head.txs)⟩, .string ⟨List.toArray (t.head.members)⟩, .string ⟨List.toArray (t.head.next)⟩, .slice ka t.head.skips.length kc, .slice ma t.set.length mc, .int .i64 (t.at_)] (fun k => .slice (some ⟨k, 0, none⟩) 1 1) (fun w => by go_simp; try rfl) (fun k48 W8 hk48 hh48 hlt48 hbk48 => ?_)
            refine hold_and (hS.trans (Mod.of_below hbk48)) (fun hS => ?_)
            have HTM8 := HTM7.keep hbk48
            have HDV8 := HDV7.keep hbk48
            have HBJ8 := HBJ7.keep hbk48
            have HBQ8 := HBQ7.keep hbk48
            have hb8 := hb7.trans (hbk48.mono (by have := hb7.size; omega))
            have hs8 := hbk48.size
            have r3 := r1.keep hbk48
            have r4 := r2.keep hbk48
            have hTL : TL W8 (.slice (some ⟨k48, 0, none⟩) 1 1) [t] := TL.ofBlock (sk := .slice ka t.head.skips.length kc) (ms := .slice ma t.set.length mc) hh48 r3.ss r4.ms r3.plain r4.plain
            try simp only [Act.put, List.setIfInBounds_toArray, List.set_cons_zero, List.set_cons_succ]
            refine wpH_call 9 (oi := { dst := some 61, op := Op.call { callee := Callee.value (Operand.func 24), args := #[Operand.tmp 52, Operand.tmp 60], argTypes := #[43, 48] }, type := 30, pos := "theorems.go:169", after := #[{ on := 0, ground := Ground.data }, { on := 8, ground := Ground.data }, { on := 7, ground := Ground.chain }], guard := none }) rfl (by kernel_rfl) (by rfl) (qadd _ _ (HK.out.keep hb8) (by intro x hx; simp at hx; omega) (by omega) HDV8 HBJ8 HBQ8 HTM8 hTL) ?_ ?_
            · (go_simp; try rfl)
            rintro e w' ⟨m9, rfl, hQ9, hM9, hD9, hJ9, hm9⟩
            refine ⟨_, rfl, hS.trans hm9, ?_⟩
            replace hS := hS.trans hm9
            have hb9 := Below.mod hb8 hm9 (by omega) (by simp; omega)
            have hs9 := hm9.size
            try simp only [Act.put, List.setIfInBounds_toArray, List.set_cons_zero, List.set_cons_succ]
            (refine wpH_pure 10 ?_ (oi := { dst := some 62, op := Op.binOp BinOp.neq 30 (Operand.tmp 61) (Operand.const (Value.int IntKind.i64 0)) 30, type := 4, pos := "theorems.go:169", after := #[{ on := 9, ground := Ground.data }], guard := none }) rfl (by kernel_rfl) (by kernel_rfl) (by kernel_rfl) (by rfl) hS (fun _ _ _ h => h) ?_ ?_; rotate_left; focus (intro w; go_simp; try with_reducible rfl))
            try simp only [Act.put, List.setIfInBounds_toArray, List.set_cons_zero, List.set_cons_succ]
            refine wpAnyH_done (by kernel_rfl) ?_ _
            go_wp2_with fail
            exact ⟨⟨i + 1, T2, d', m9, by omega, by go_num, HT2, by omega, Lib.hid (by rw [show 500 * (i + 1) = 500 * i + 500 from by omega]; exact HDO2.out), Lib.hid hM9, Lib.hid hD9, Lib.hid hJ9, Lib.hid hQ9, hb9, by omega⟩, by simp [intOf]; omega⟩
          · have hil : i = l.length := by omega
            subst hil
            have hTM := HTM.out
            have hBQ := HBQ.out
            have hTS := HT.out.sm
            have hnd := hTM.nodup
            have hkey := HT.out.key
            have hTl20 : T.length ≤ 20 := by omega
            have q5 := theights_any base q m1 10 (.pointer (some ⟨j, 0, none⟩)) T (by omega) wr hTM hBQ
            have hpb : p < base := by omega
            have hjb : j < base := by omega
            have hlen : (sortZ (hts T)).length ≤ 20 := by rw [sortZ_len]; unfold hts; rw [List.length_map]; exact hTl20
            have HND := Lib.hid hnd
            have HTS := Lib.hid hTS
            have HKEY := Lib.hid hkey
            clear hnd hTS hkey hi hlt hTl HV
            go_wp2_with fail
            refine q5.mono ?_
            rintro e w5 ⟨vz, rfl, hz, hb⟩
            have hb5 := hbr.trans (hb.mono hbr.size)
            have hs5 := hb.size
            have hTM5 := hTM.keep hb
            have hBQ5 := hBQ.keep hb
            have hDV5 := HDV.out.keep hb
            have hBJ5 := HBJ.out.keep hb
            obtain ⟨za, zc, rfl⟩ := hz.form
            have HZ := Lib.hid hz
            clear q5 hb hbr hTM hBQ HTM HBQ HDV HBJ hz
            by_cases hm1 : most < 1
            · have e1 : decide (most < 1) = true := by simpa using hm1
              have q6 := ttrim_range q most now hm1 w5
              have q7 := theights_any base q m1 10 (.pointer (some ⟨j, 0, none⟩)) T (by omega) w5 hTM5 hBQ5
              clear hm1 hDV5 hBJ5
              go_wp2_with fail
              refine q6.mono ?_
              rintro e w6 ⟨rfl, rfl⟩
              clear q6
              go_wp2_with fail
              refine q7.mono ?_
              rintro e w7 ⟨vy, rfl, hy, hb⟩
              have hb7 := hb5.trans (hb.mono hb5.size)
              have hz7 := HZ.out.keep hb
              obtain ⟨ya, yc, rfl⟩ := hy.form
              have q8 := sameints_self _ _ _ w7 hz7.is hy.is
              clear q7 hy hz7 hb
              go_wp2_with fail
              refine q8.mono ?_
              rintro e w8 ⟨rfl, n8, rfl⟩
              clear q8
              go_wp2_with fail
              all_goals (go_ret; exact ⟨rfl, below_drewN hb7 n8⟩)
            · have e1 : decide (most < 1) = false := by simpa using hm1
              have hmo1 : 1 ≤ most := by omega
              have HGN := Lib.hid (gone_nodup HND.out 10 now most)
              have HGI := Lib.hid (fun k (h : k ∈ goneG T 10 now most) => gone_in h)
              have HGA := Lib.hid (gone_again HND.out 10 now most)
              have HLH := Lib.hid (left_heights HND.out 10 now most)
              have HKL := Lib.hid (kept_len T 10 now most)
              have HKM := Lib.hid (kept_most hmo1 T 10 now)
              have HKS := Lib.hid (kept_sub T 10 now most)
              have HLA := Lib.hid (@kept_last T 10 now most)
              have hgl : (goneG T 10 now most).length ≤ 20 := by have := HKL.out; omega
              obtain ⟨d2, hd2, hdo2⟩ := drop_one HDO.out (by omega) hgl HGN.out HGI.out
              have HDO2 := Lib.hid hdo2
              have q6 := ttrim_any [q, m, j, p] base p j q m1 10 most now d T ⟨hmo1, hmo.2⟩ hnow (by omega) (by omega) HTS.out (gone_may (by omega) (fun k hk => HKEY.out k (HGI.out k hk))) ⟨by rw [HDO.out.fuse]; omega, by rw [HDO.out.fuse]; omega⟩ ⟨by rw [HDO.out.room]; omega, by rw [HDO.out.room]; omega⟩ (by have := HDO.out.len; omega) (fun k hk => by have := HKEY.out k hk; omega) w5 (HK.out.keep hb5) hDV5 hBJ5 (by omega) (by simp) (by simp) (by intro x hx; simp at hx; omega) hpb hjb hqb (by omega) (by omega) (by omega) hBQ5 hTM5
              rw [hd2] at q6
              simp only at q6
              have HT2 : Hid (TInv (delL T (goneG T 10 now most))) := Lib.hid (HT.out.sub (delL_sub _ _))
              have hT2l : (delL T (goneG T 10 now most)).length ≤ 20 := Nat.le_trans (delL_sub _ _).length_le hTl20
              have HSUB : Hid (∀ e ∈ delL T (goneG T 10 now most), e ∈ T) := Lib.hid (fun e he => (delL_sub _ _).subset he)
              rw [show trimN 0 (goneG T 10 now most).length = ((goneG T 10 now most).length : Int) from rfl] at q6
              generalize delL T (goneG T 10 now most) = T2 at *
              generalize (goneG T 10 now most).length = gl at *
              generalize keptH T 10 now most = Ns at *
              have HHM := Lib.hid (fun x (h : x ∈ sortZ (hts T2)) => sortZ_mem.1 h)
              rw [HLH.out] at HHM
              generalize sortZ (hts T) = Hs at *
              have q7 := fun (W : World) (m2 : Nat) (h1 : TrM W base m2 T2) (h2 : Blk W q #[.map (some m2), .int .i64 (10), .pointer (some ⟨j, 0, none⟩)]) => theights_any base q m2 10 (.pointer (some ⟨j, 0, none⟩)) T2 (by omega) W h1 h2
              rw [HLH.out] at q7
              clear hm1 hDV5 hBJ5 hTM5 hBQ5 hd2 hdo2 HLH HGN HGI
              go_wp2_with fail
              refine q6.mono ?_
              rintro e w6 ⟨m2, rfl, hQ6, hM6, hD6, hJ6, hm6⟩
              have hb6 := Below.mod hb5 hm6 hb5.size (by simp; omega)
              have hz6 := HZ.out.modl hm6 (by simp; omega)
              have hs6 := hm6.size
              have q7' := q7 w6 m2 hM6 hQ6
              clear q6 q7 hm6 HZ
              go_wp2_with fail
              refine q7'.mono ?_
              rintro e w7 ⟨vy, rfl, hy, hb⟩
              have hb7 := hb6.trans (hb.mono hb6.size)
              have hs7 := hb.size
              have hz7 := hz6.keep hb
              obtain ⟨ya, yc, rfl⟩ := hy.form
              have hnd2 := hM6.nodup
              have q8 := ttrim_any [q, m, j, p] base p j q m2 10 most now d2 T2 ⟨hmo1, hmo.2⟩ hnow (by omega) (by omega) HT2.out.sm (by rw [HGA.out]; exact gone_may (by simp) (fun k hk => by cases hk)) ⟨by rw [HDO2.out.fuse]; omega, by rw [HDO2.out.fuse]; omega⟩ ⟨by rw [HDO2.out.room]; omega, by rw [HDO2.out.room]; omega⟩ (by have := HDO2.out.len; omega) (fun k hk => by have := HT2.out.key k hk; omega) w7 (HK.out.keep hb7) (hD6.keep hb) (hJ6.keep hb) (by omega) (by simp) (by simp) (by intro x hx; simp at hx; omega) hpb hjb hqb (by omega) (by omega) (by omega) (hQ6.keep hb) (hM6.keep hb)
              rw [HGA.out, dropD_none (rfl : dropsT [] T2 = some T2)] at q8
              simp only at q8
              rw [show trimN 0 ([] : List Int).length = 0 from rfl] at q8
              have HND2 := Lib.hid hnd2
              clear q7' hb hz6 hQ6 hM6 hD6 hJ6 HGA hnd2
              go_wp2_with fail
              refine q8.mono ?_
              rintro e w8 ⟨m3, rfl, hQ8, hM8, hD8, hJ8, hm8⟩
              have hb8 := Below.mod hb7 hm8 hb7.size (by simp; omega)
              have hz8 := hz7.modl hm8 (by simp; omega)
              have hy8 := hy.modl hm8 (by simp; omega)
              have HZ8 := Lib.hid hz8.is
              have HY8 := Lib.hid hy8.is
              have hzs := hz8.is.small
              have hys := hy8.is.small
              have HQ8 := Lib.hid hQ8
              have HM8 := Lib.hid hM8
              have hs8 := hb8.size
              have hNH : Ns.length ≤ Hs.length := HKS.out.length_le
              have f1 : IntKind.i64.wrap ((Hs.length : Int) - (Ns.length : Int)) = (gl : Int) := by have := HKL.out; rw [IntKind.wrap_i64]; omega
              have f2 : wrap64 ((Hs.length : Int) - (Ns.length : Int)) = (gl : Int) := by have := HKL.out; rw [← IntWalk.i64_left, IntWalk.i64_in _ (by omega)]; omega
              have f3 : decide (most < (Ns.length : Int)) = false := by have := HKM.out; simp; omega
              clear q8 hm8 hz7 hz8 hy hy8 hQ8 hM8 hD8 hJ8 HKL HKM
              by_cases hH0 : Hs.length = 0
              · have f4 : ((Hs.length : Int) == 0) = true := by rw [beq_iff_eq]; omega
                have f5 : ((Ns.length : Int) == 0) = true := by rw [beq_iff_eq]; omega
                clear hH0 hNH HLA
                go_wp2_with fail
                all_goals (go_ret; exact ⟨rfl, hb8⟩)
              · have f4 : ((Hs.length : Int) == 0) = false := by rw [beq_eq_false_iff_ne]; omega
                have HMET : Hid ((Hs.drop 0).foldl (metN Ns) 0 = Ns.length) := Lib.hid (by rw [List.drop_zero]; exact met_all Hs 0 (by rw [List.drop_zero]; exact HKS.out) (by omega))
                obtain ⟨xa, xb, x, ex, ey, efr⟩ := HLA.out (by intro e; rw [e] at hH0; simp at hH0)
                have HFR : Hid (∀ i, i + 1 < Ns.length → freshK T 10 now (Ns.getD i 0) = true) := Lib.hid (by
                  intro i hi
                  rw [ey] at hi ⊢
                  rw [List.length_append, List.length_singleton] at hi
                  rw [List.getD_eq_getElem?_getD, List.getElem?_append_left (by omega), List.getElem?_eq_getElem (by omega)]
                  exact efr _ (List.getElem_mem _))
                have HLX : Hid (Ns.getD xb.length 0 = x) := Lib.hid (by rw [ey, List.getD_eq_getElem?_getD]; simp)
                have HLY : Hid (Hs.getD xa.length 0 = x) := Lib.hid (by rw [ex, List.getD_eq_getElem?_getD]; simp)
                have HNL : Hid (Ns.length = xb.length + 1) := Lib.hid (by rw [ey]; simp)
                have HHL : Hid (Hs.length = xa.length + 1) := Lib.hid (by rw [ex]; simp)
                generalize xa.length = na at *
                generalize xb.length = nb at *
                clear hH0 hNH HLA ex ey efr HKS
                go_wp2_with fail
                go_loopw [19, 128] (fun s19 s128 wr => ∃ (i k : Nat), i ≤ Hs.length ∧ k ≤ i ∧ s128 = .int .i64 (i) ∧ s19 = .int .i64 (k) ∧ Hid ((Hs.drop i).foldl (metN Ns) k = Ns.length) ∧ Below w8.heap.size w8 wr) (fun _ s128 _ => Hs.length - (intOf s128).toNat)
                case atStart => exact ⟨0, 0, by omega, by omega, rfl, rfl, HMET, Below.refl _ _⟩
                case round =>
                  obtain ⟨i, k, hi, hki, rfl, rfl, HMT, hbr⟩ := hrel
                  clear HMET
                  by_cases hlt : i < Hs.length
                  · have hbd : 0 ≤ (i : Int) ∧ (i : Int) < (Hs.length : Int) := by omega
                    obtain ⟨g, off, e2, hg, c1⟩ := ((HZ8.out).keep hbr).at' i hlt
                    subst e2
                    have HM2 : Hid ((Hs.drop (i + 1)).foldl (metN Ns) (metN Ns k (Hs.getD i 0)) = Ns.length) := Lib.hid (by rw [← HMT.out, dropZ Hs i hlt, List.foldl_cons])
                    generalize Hs.getD i 0 = h at *
                    by_cases hkl : k < Ns.length
                    · have g1 : decide ((k : Int) < (Ns.length : Int)) = true := by simp; omega
                      have hbd2 : 0 ≤ (k : Int) ∧ (k : Int) < (Ns.length : Int) := by omega
                      obtain ⟨g2, off2, e3, hg2, c2⟩ := ((HY8.out).keep hbr).at' k hkl
                      subst e3
                      rw [met_step h hkl] at HM2
                      generalize Ns.getD k 0 = y at *
                      by_cases hye : y = h
                      · have g2 : (y == h) = true := by simpa using hye
                        rw [if_pos hye] at HM2
                        clear hye HMT
                        go_wp2_with fail
                        exact ⟨⟨i + 1, k + 1, by omega, by omega, by go_num, by go_num, HM2, hbr⟩, by simp [intOf]; omega⟩
                      · have g2 : (y == h) = false := by simpa using hye
                        rw [if_neg hye] at HM2
                        clear hye HMT
                        go_wp2_with fail
                        exact ⟨⟨i + 1, k, by omega, by omega, by go_num, rfl, HM2, hbr⟩, by simp [intOf]; omega⟩
                    · have g1 : decide ((k : Int) < (Ns.length : Int)) = false := by simp; omega
                      rw [show metN Ns k h = k from if_neg (fun h2 => hkl h2.1)] at HM2
                      clear HMT
                      go_wp2_with fail
                      exact ⟨⟨i + 1, k, by omega, by omega, by go_num, rfl, HM2, hbr⟩, by simp [intOf]; omega⟩
                  · have hil : i = Hs.length := by omega
                    have hkN : k = Ns.length := by have := HMT.out; rw [hil, List.drop_length] at this; exact this
                    subst hil
                    subst hkN
                    have hw9 := hbr
                    clear hbr HMT hlt hi hki
                    go_wp2_with fail
                    go_loopw [149] (fun s149 wq => ∃ (i : Nat), i ≤ Ns.length ∧ s149 = .int .i64 (i) ∧ Below w8.heap.size w8 wq) (fun s149 _ => Ns.length - (intOf s149).toNat)
                    case atStart => exact ⟨0, by omega, rfl, hw9⟩
                    case round =>
                      obtain ⟨i, hi, rfl, hbr⟩ := hrel
                      clear hw9
                      by_cases hlt : i < Ns.length
                      · have hbd : 0 ≤ (i : Int) ∧ (i : Int) < (Ns.length : Int) := by omega
                        obtain ⟨g, off, e2, hg, c1⟩ := ((HY8.out).keep hbr).at' i hlt
                        subst e2
                        have hmem : Ns.getD i 0 ∈ Ns := by rw [List.getD_eq_getElem?_getD, List.getElem?_eq_getElem hlt]; exact List.getElem_mem _
                        have hkin := HHM.out _ hmem
                        have hfrI := HFR.out i
                        generalize Ns.getD i 0 = hk1 at *
                        obtain ⟨t, ht⟩ := hts_mem hkin
                        obtain ⟨l1, l2, l3, l4⟩ := HT2.out.sm _ ht
                        simp only at l1 l2 l3 l4
                        have hfr := fresh_some (span := 10) (now := now) (lookK_in HND.out (HSUB.out _ ht))
                        rw [hfr] at hfrI
                        have q9 := tat_any base q m3 10 (.pointer (some ⟨j, 0, none⟩)) T2 hk1 now t ⟨l3, l4⟩ hnow (by omega) ht l1 l2 _ (HM8.out.keep hbr) (HQ8.out.keep hbr)
                        have i1 : IntKind.i64.wrap ((Ns.length : Int) - 1) = (Ns.length : Int) - 1 := by rw [IntKind.wrap_i64]; omega
                        have i2 : wrap64 ((Ns.length : Int) - 1) = (Ns.length : Int) - 1 := by rw [← IntWalk.i64_left, IntWalk.i64_in _ (by omega)]
                        cases hst : staleT 10 now t
                        · rw [hst] at q9
                          simp only [Bool.false_eq_true, ↓reduceIte] at q9
                          clear hst hfrI hfr hkin hmem ht
                          go_wp2_with fail
                          refine q9.mono ?_
                          rintro e w9 ⟨v9, rfl, ⟨sk, ms, rfl, r1, r2⟩, hb⟩
                          obtain ⟨ka, kc, rfl⟩ := r1.form
                          obtain ⟨ma, mc, rfl⟩ := r2.form
                          have hb9 := hbr.trans (hb.mono hbr.size)
                          clear q9 hb
                          go_wp2_with (first | (refine wpList_rowStore row_trust rfl rfl (.tmp 24) (.tmp 159) rfl rfl rfl (vs := [.int .i64 (t.head.height), .int .i64 (t.head.epoch), .int .i64 (t.head.view), .bool t.head.last, .string ⟨List.toArray (t.head.parent)⟩, .string ⟨List.toArray (t.head.state)⟩, .string ⟨List.toArray (t.head.receipts)⟩, .string ⟨List.toArray (t.head.txs)⟩, .string ⟨List.toArray (t.head.members)⟩, .string ⟨List.toArray (t.head.next)⟩, .slice ka t.head.skips.length kc, .slice ma t.set.length mc, .int .i64 (t.at_)]) rfl (by simp [Value.oneCell']) (us := [.int .i64 (0), .int .i64 (0), .int .i64 (0), .bool false, .string ⟨List.toArray ([])⟩, .string ⟨List.toArray ([])⟩, .string ⟨List.toArray ([])⟩, .string ⟨List.toArray ([])⟩, .string ⟨List.toArray ([])⟩, .string ⟨List.toArray ([])⟩, .slice none 0 0, .slice none 0 0, .int .i64 (0)]) rfl (Blk.new' (by simp)) ?_; intro w7 N7 m7; have hbn := Below.mod (Below.allocS (Below.refl w9.heap.size w9) (.cells #[.int .i64 (0), .int .i64 (0), .int .i64 (0), .bool false, .string ⟨List.toArray ([])⟩, .string ⟨List.toArray ([])⟩, .string ⟨List.toArray ([])⟩, .string ⟨List.toArray ([])⟩, .string ⟨List.toArray ([])⟩, .string ⟨List.toArray ([])⟩, .slice none 0 0, .slice none 0 0, .int .i64 (0)] 27)) m7 (by simp) (by simp); have hb10 := hb9.trans (hbn.mono hb9.size)))
                          exact ⟨⟨i + 1, by omega, by go_num, (by first | exact hb10 | exact Below.allocS hb9 _)⟩, by simp [intOf]; omega⟩
                        · rw [hst] at q9 hfrI
                          simp only [↓reduceIte] at q9
                          have i3 : decide ((i : Int) < (Ns.length : Int) - 1) = false := by
                            rw [decide_eq_false_iff_not]
                            intro h
                            have := hfrI (by omega)
                            cases this
                          clear hst hfrI hfr hkin hmem ht
                          go_wp2_with fail
                          refine q9.mono ?_
                          rintro e w9 ⟨v9, rfl, rfl, hb⟩
                          have hb9 := hbr.trans (hb.mono hbr.size)
                          clear q9 hb
                          go_wp2_with (first | (refine wpList_rowStore row_trust rfl rfl (.tmp 24) (.tmp 159) rfl rfl rfl (vs := [.int .i64 (0), .int .i64 (0), .int .i64 (0), .bool false, .string ⟨List.toArray ([])⟩, .string ⟨List.toArray ([])⟩, .string ⟨List.toArray ([])⟩, .string ⟨List.toArray ([])⟩, .string ⟨List.toArray ([])⟩, .string ⟨List.toArray ([])⟩, .slice none 0 0, .slice none 0 0, .int .i64 (0)]) rfl (by simp [Value.oneCell']) (us := [.int .i64 (0), .int .i64 (0), .int .i64 (0), .bool false, .string ⟨List.toArray ([])⟩, .string ⟨List.toArray ([])⟩, .string ⟨List.toArray ([])⟩, .string ⟨List.toArray ([])⟩, .string ⟨List.toArray ([])⟩, .string ⟨List.toArray ([])⟩, .slice none 0 0, .slice none 0 0, .int .i64 (0)]) rfl (Blk.new' (by simp)) ?_; intro w7 N7 m7; have hbn := Below.mod (Below.allocS (Below.refl w9.heap.size w9) (.cells #[.int .i64 (0), .int .i64 (0), .int .i64 (0), .bool false, .string ⟨List.toArray ([])⟩, .string ⟨List.toArray ([])⟩, .string ⟨List.toArray ([])⟩, .string ⟨List.toArray ([])⟩, .string ⟨List.toArray ([])⟩, .string ⟨List.toArray ([])⟩, .slice none 0 0, .slice none 0 0, .int .i64 (0)] 27)) m7 (by simp) (by simp); have hb10 := hb9.trans (hbn.mono hb9.size)))
                          exact ⟨⟨i + 1, by omega, by go_num, (by first | exact hb10 | exact Below.allocS hb9 _)⟩, by simp [intOf]; omega⟩
                      · have hil : i = Ns.length := by omega
                        subst hil
                        obtain ⟨g, off, e2, hg, c1⟩ := ((HY8.out).keep hbr).at' nb (by have := HNL.out; omega)
                        obtain ⟨g2, off2, e3, hg2, c2⟩ := ((HZ8.out).keep hbr).at' na (by have := HHL.out; omega)
                        subst e2
                        subst e3
                        rw [HLX.out] at c1
                        rw [HLY.out] at c2
                        have j1 : IntKind.i64.wrap ((Ns.length : Int) - 1) = (nb : Int) := by have := HNL.out; rw [IntKind.wrap_i64]; omega
                        have j2 : wrap64 ((Ns.length : Int) - 1) = (nb : Int) := by have := HNL.out; rw [← IntWalk.i64_left, IntWalk.i64_in _ (by omega)]; omega
                        have j3 : IntKind.i64.wrap ((Hs.length : Int) - 1) = (na : Int) := by have := HHL.out; rw [IntKind.wrap_i64]; omega
                        have j4 : wrap64 ((Hs.length : Int) - 1) = (na : Int) := by have := HHL.out; rw [← IntWalk.i64_left, IntWalk.i64_in _ (by omega)]; omega
                        have j5 : decide ((0 : Int) < (Ns.length : Int)) = true := by have := HNL.out; simp; omega
                        have k1 : 0 ≤ (nb : Int) ∧ (nb : Int) < (Ns.length : Int) := by have := HNL.out; omega
                        have k2 : 0 ≤ (na : Int) ∧ (na : Int) < (Hs.length : Int) := by have := HHL.out; omega
                        have hbf := hb8.trans (hbr.mono hb8.size)
                        have jb1 : ((Ns.length : Int) == (Ns.length : Int)) = true := by simp
                        have jb2 : (x == x) = true := by simp
                        clear hlt hi hbr
                        go_wp2_with fail
                        refine wp_held rfl (by kernel_rfl) ?_
                        (refine wpQ_pure (by rfl) ?_ ?_ ?_; rotate_left; focus (intro w; go_simp; try with_reducible rfl))
                        try simp only [Act.put, List.setIfInBounds_toArray, List.set_cons_zero, List.set_cons_succ]
                        (refine wpQ_pure (by rfl) ?_ ?_ ?_; rotate_left; focus (intro w; go_simp; try with_reducible rfl))
                        try simp only [Act.put, List.setIfInBounds_toArray, List.set_cons_zero, List.set_cons_succ]
                        (refine wpQ_pure (by rfl) ?_ ?_ ?_; rotate_left; focus (intro w; go_simp; try with_reducible rfl))
                        try simp only [Act.put, List.setIfInBounds_toArray, List.set_cons_zero, List.set_cons_succ]
                        refine wpQ_pure (by rfl) (.bool true) (fun w => (by go_simp; try rfl)) ?_
                        try simp only [Act.put, List.setIfInBounds_toArray, List.set_cons_zero, List.set_cons_succ]
                        (refine wpQ_pure (by rfl) ?_ ?_ ?_; rotate_left; focus (intro w; go_simp; try with_reducible rfl))
                        try simp only [Act.put, List.setIfInBounds_toArray, List.set_cons_zero, List.set_cons_succ]
                        (first | (refine wpQ_skip (by first | rfl | (go_simp; rfl)) ?_) | (refine wpQ_pure (by rfl) ?_ ?_ ?_; rotate_left; focus (intro w; go_simp; try with_reducible rfl)))
                        try simp only [Act.put, List.setIfInBounds_toArray, List.set_cons_zero, List.set_cons_succ]
                        refine wpQ_pure (by rfl) (.bool true) (fun w => (by go_simp; first | omega | rfl)) ?_
                        try simp only [Act.put, List.setIfInBounds_toArray, List.set_cons_zero, List.set_cons_succ]
                        refine wpQ_pure (by rfl) (.bool true) (fun w => (by go_simp; try rfl)) ?_
                        try simp only [Act.put, List.setIfInBounds_toArray, List.set_cons_zero, List.set_cons_succ]
                        (refine wpQ_pure (by rfl) ?_ ?_ ?_; rotate_left; focus (intro w; go_simp; try with_reducible rfl))
                        try simp only [Act.put, List.setIfInBounds_toArray, List.set_cons_zero, List.set_cons_succ]
                        (first | (refine wpQ_skip (by first | rfl | (go_simp; rfl)) ?_) | (refine wpQ_pure (by rfl) ?_ ?_ ?_; rotate_left; focus (intro w; go_simp; try with_reducible rfl)))
                        try simp only [Act.put, List.setIfInBounds_toArray, List.set_cons_zero, List.set_cons_succ]
                        (first | (refine wpQ_skip (by first | rfl | (go_simp; rfl)) ?_) | (refine wpQ_pure (by rfl) ?_ ?_ ?_; rotate_left; focus (intro w; go_simp; try with_reducible rfl)))
                        try simp only [Act.put, List.setIfInBounds_toArray, List.set_cons_zero, List.set_cons_succ]
                        refine wpQ_pure (by rfl) (.int .i64 (nb)) (fun w => (by go_simp; try rfl)) ?_
                        try simp only [Act.put, List.setIfInBounds_toArray, List.set_cons_zero, List.set_cons_succ]
                        (first | (refine wpQ_skip (by first | rfl | (go_simp; rfl)) ?_) | (refine wpQ_pure (by rfl) ?_ ?_ ?_; rotate_left; focus (intro w; go_simp; try with_reducible rfl)))
                        try simp only [Act.put, List.setIfInBounds_toArray, List.set_cons_zero, List.set_cons_succ]
                        refine wpQ_load (by rfl) (.int .i64 (x)) (fun w hb => (by have c := (hb.cell (p := ⟨g, off + nb, none⟩) hg).trans c1; go_simp; try rfl)) ?_
                        try simp only [Act.put, List.setIfInBounds_toArray, List.set_cons_zero, List.set_cons_succ]
                        (first | (refine wpQ_skip (by first | rfl | (go_simp; rfl)) ?_) | (refine wpQ_pure (by rfl) ?_ ?_ ?_; rotate_left; focus (intro w; go_simp; try with_reducible rfl)))
                        try simp only [Act.put, List.setIfInBounds_toArray, List.set_cons_zero, List.set_cons_succ]
                        (first | (refine wpQ_skip (by first | rfl | (go_simp; rfl)) ?_) | (refine wpQ_pure (by rfl) ?_ ?_ ?_; rotate_left; focus (intro w; go_simp; try with_reducible rfl)))
                        try simp only [Act.put, List.setIfInBounds_toArray, List.set_cons_zero, List.set_cons_succ]
                        (first | (refine wpQ_skip (by first | rfl | (go_simp; rfl)) ?_) | (refine wpQ_pure (by rfl) ?_ ?_ ?_; rotate_left; focus (intro w; go_simp; try with_reducible rfl)))
                        try simp only [Act.put, List.setIfInBounds_toArray, List.set_cons_zero, List.set_cons_succ]
                        refine wpQ_pure (by rfl) (.int .i64 (na)) (fun w => (by go_simp; try rfl)) ?_
                        try simp only [Act.put, List.setIfInBounds_toArray, List.set_cons_zero, List.set_cons_succ]
                        (first | (refine wpQ_skip (by first | rfl | (go_simp; rfl)) ?_) | (refine wpQ_pure (by rfl) ?_ ?_ ?_; rotate_left; focus (intro w; go_simp; try with_reducible rfl)))
                        try simp only [Act.put, List.setIfInBounds_toArray, List.set_cons_zero, List.set_cons_succ]
                        refine wpQ_load (by rfl) (.int .i64 (x)) (fun w hb => (by have c := (hb.cell (p := ⟨g2, off2 + na, none⟩) hg2).trans c2; go_simp; try rfl)) ?_
                        try simp only [Act.put, List.setIfInBounds_toArray, List.set_cons_zero, List.set_cons_succ]
                        refine wpQ_pure (by rfl) (.bool true) (fun w => (by go_simp; try rfl)) ?_
                        try simp only [Act.put, List.setIfInBounds_toArray, List.set_cons_zero, List.set_cons_succ]
                        (refine wpQ_pure (by rfl) ?_ ?_ ?_; rotate_left; focus (intro w; go_simp; try with_reducible rfl))
                        try simp only [Act.put, List.setIfInBounds_toArray, List.set_cons_zero, List.set_cons_succ]
                        (refine wpQ_pure (by rfl) ?_ ?_ ?_; rotate_left; focus (intro w; go_simp; try with_reducible rfl))
                        try simp only [Act.put, List.setIfInBounds_toArray, List.set_cons_zero, List.set_cons_succ]
                        intro w9 hS
                        go_wp2_with fail
                        all_goals (go_ret; exact ⟨rfl, hbf.trans (hS.mono hbf.size)⟩)
end Go.Proofs.YthgjdaomcpinaaaGreatDoor
