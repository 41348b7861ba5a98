/- TChange, RListL, JNext, JScan. -/
import Derived.Test.YthgjdaomcpinaaaGreatDoorMn10
import Derived.Test.YthgjdaomcpinaaaGreatDoorMn11
import Derived.Test.YthgjdaomcpinaaaGreatDoorMn17
import Derived.Test.YthgjdaomcpinaaaGreatDoorMn20
import Derived.Test.YthgjdaomcpinaaaGreatDoorMn25
import Derived.Test.YthgjdaomcpinaaaGreatDoorMn26
set_option linter.unnecessarySimpa false

/- trust.Store.change: a change that was told is done. The program's walk. -/
set_option linter.unusedSimpArgs false
set_option linter.unusedVariables false
namespace Go.Proofs.YthgjdaomcpinaaaGreatDoor
open Go.RowKit Go.WideMaps Go.Maps Go.Sort Go.Shelf Pl

set_option maxRecDepth 100000 in
set_option maxHeartbeats 4000000 in
theorem tchange_come (base q m : Nat) (span : Int) (jp : Value) (T : List (Int × Tr)) (t : Tr) (hT : T.length < 1000000) (hf : fineT t = true) (hh : -9223372036854775808 ≤ t.head.height ∧ t.head.height ≤ 9223372036854775807) (w : World) (hk : KT w) (hM : TrM w base m T) (hbase : base ≤ w.heap.size) (hqm : q ≠ m) (B : Blk w q #[.map (some m), .int .i64 (span), jp]) :
    Calls Tryz.prog 69 #[.pointer (some ⟨q, 0, none⟩), .string ⟨List.toArray (1 :: writT t)⟩] w fun e w' => e = .returned (.bool true) ∧ TrM w' base m (putK T t.head.height t) ∧ Blk w' q #[.map (some m), .int .i64 (span), jp] ∧ Mod [m] w w' := by
  have hl := writT_len hf
  have q1 := fun W (hk : KT W) => tr_decode (writT t) (by omega) W hk
  rw [decT_writ hf] at q1
  simp only at q1
  generalize writT t = X at *
  have hml := hM.lt
  have hql := B.lt
  have HM := Lib.hid hM
  have HK := Lib.hid hk
  have HB := Lib.hid B
  have k1 : (1 : Int) ≤ (X.length : Int) + 1 := by omega
  clear hM hk B hf
  go_enter Tryz.func69, Tryz.ntmps69
  go_wp2_with fail
  refine (q1 w HK.out).mono ?_
  rintro e w1 ⟨v, rfl, ⟨sk, ms, rfl, r1, r2⟩, hb⟩
  obtain ⟨ka, kc, rfl⟩ := r1.form
  obtain ⟨ma, mc, rfl⟩ := r2.form
  have hs1 := hb.size
  clear q1
  go_wp2_with (first
    | (refine wpList_rowStore row_trust rfl rfl (.tmp 5) (.tmp 20) rfl rfl rfl (vs := [.int .i64 (t.head.height), .int .i64 (t.head.epoch), .int .i64 (t.head.view), .bool t.head.last, .string ⟨List.toArray (t.head.parent)⟩, .string ⟨List.toArray (t.head.state)⟩, .string ⟨List.toArray (t.head.receipts)⟩, .string ⟨List.toArray (t.head.txs)⟩, .string ⟨List.toArray (t.head.members)⟩, .string ⟨List.toArray (t.head.next)⟩, .slice ka t.head.skips.length kc, .slice ma t.set.length mc, .int .i64 (t.at_)]) rfl (by simp [Value.oneCell']) (us := [.int .i64 (0), .int .i64 (0), .int .i64 (0), .bool false, .string ⟨List.toArray ([])⟩, .string ⟨List.toArray ([])⟩, .string ⟨List.toArray ([])⟩, .string ⟨List.toArray ([])⟩, .string ⟨List.toArray ([])⟩, .string ⟨List.toArray ([])⟩, .slice none 0 0, .slice none 0 0, .int .i64 (0)]) rfl (Blk.new' (by simp)) ?_; intro w2 N2 m2; have hb2 := Below.mod (Below.allocS (Below.refl w1.heap.size w1) (.cells #[.int .i64 (0), .int .i64 (0), .int .i64 (0), .bool false, .string ⟨List.toArray ([])⟩, .string ⟨List.toArray ([])⟩, .string ⟨List.toArray ([])⟩, .string ⟨List.toArray ([])⟩, .string ⟨List.toArray ([])⟩, .string ⟨List.toArray ([])⟩, .slice none 0 0, .slice none 0 0, .int .i64 (0)] 27)) m2 (by simp) (by simp))
    | fail)
  have hbx := hb.trans (hb2.mono hb.size)
  have hs2 := hb2.size
  have hM2 := HM.out.keep hbx
  have hB2 := HB.out.keep hbx
  have r3 := (r1.keep hb2).low hbase
  have r4 := (r2.keep hb2).low hbase
  have hml2 := hM2.lt
  have hmx := Mod.of_below (l := [m]) hbx
  have hmn : m ≠ w1.heap.size := by omega
  have HB2 := Lib.hid hB2
  clear hb2 r1 r2 m2 hb hbx hB2
  refine wpH_startM [m] (by kernel_rfl) (fun hS => ?_)
  (refine wpH_pure 0 ?_ (oi := { dst := some 24, op := Op.move (Operand.tmp 0), type := 43, pos := "store.go:53", after := #[], guard := none }) rfl (by kernel_rfl) (by kernel_rfl) (by kernel_rfl) (by rfl) hS (fun _ _ _ h => h) ?_ ?_; rotate_left; focus (intro w; go_simp; try with_reducible rfl))
  try simp only [Act.put, List.setIfInBounds_toArray, List.set_cons_zero, List.set_cons_succ]
  (refine wpH_pure 1 ?_ (oi := { dst := some 25, op := Op.nilCheck (Operand.tmp 24), type := 0, pos := "store.go:53", after := #[{ on := 0, ground := Ground.data }], guard := none }) rfl (by kernel_rfl) (by kernel_rfl) (by kernel_rfl) (by rfl) hS (fun _ _ _ h => h) ?_ ?_; rotate_left; focus (intro w; go_simp; try with_reducible rfl))
  try simp only [Act.put, List.setIfInBounds_toArray, List.set_cons_zero, List.set_cons_succ]
  (refine wpH_pure 2 ?_ (oi := { dst := some 26, op := Op.fieldAddr 122 (Operand.tmp 25) 0, type := 0, pos := "store.go:53", after := #[{ on := 1, ground := Ground.data }], guard := none }) rfl (by kernel_rfl) (by kernel_rfl) (by kernel_rfl) (by rfl) hS (fun _ _ _ h => h) ?_ ?_; rotate_left; focus (intro w; go_simp; try with_reducible rfl))
  try simp only [Act.put, List.setIfInBounds_toArray, List.set_cons_zero, List.set_cons_succ]
  refine wpH_load 3 (.map (some m)) (oi := { dst := some 27, op := Op.load 120 (Operand.tmp 26), type := 120, pos := "store.go:53", after := #[{ on := 2, ground := Ground.data }], guard := none }) rfl (by kernel_rfl) (by kernel_rfl) (by kernel_rfl) (by rfl) hS (fun _ _ _ h => h) (fun w hb2 => (by have c := (HB2.out.mod hb2 (by simp; omega)).cell 0; go_simp; try rfl)) ?_
  try simp only [Act.put, List.setIfInBounds_toArray, List.set_cons_zero, List.set_cons_succ]
  (refine wpH_pure 4 ?_ (oi := { dst := some 28, op := Op.fieldAddr 27 (Operand.tmp 5) 0, type := 0, pos := "store.go:53", after := #[], guard := none }) rfl (by kernel_rfl) (by kernel_rfl) (by kernel_rfl) (by rfl) hS (fun _ _ _ h => h) ?_ ?_; rotate_left; focus (intro w; go_simp; try with_reducible rfl))
  try simp only [Act.put, List.setIfInBounds_toArray, List.set_cons_zero, List.set_cons_succ]
  (refine wpH_pure 5 ?_ (oi := { dst := some 29, op := Op.fieldAddr 24 (Operand.tmp 28) 0, type := 0, pos := "store.go:53", after := #[{ on := 4, ground := Ground.data }], guard := none }) rfl (by kernel_rfl) (by kernel_rfl) (by kernel_rfl) (by rfl) hS (fun _ _ _ h => h) ?_ ?_; rotate_left; focus (intro w; go_simp; try with_reducible rfl))
  try simp only [Act.put, List.setIfInBounds_toArray, List.set_cons_zero, List.set_cons_succ]
  refine wpH_load 6 (.int .i64 (t.head.height)) (oi := { dst := some 30, op := Op.load 3 (Operand.tmp 29), type := 3, pos := "store.go:53", after := #[{ on := 5, ground := Ground.data }], guard := none }) rfl (by kernel_rfl) (by kernel_rfl) (by kernel_rfl) (by rfl) hS (fun _ _ _ h => h) (fun w hb2 => (by have c := (N2.mod hb2 (by simp; omega)).cell 0; go_simp; try rfl)) ?_
  try simp only [Act.put, List.setIfInBounds_toArray, List.set_cons_zero, List.set_cons_succ]
  refine wpH_row row_trust 7 (oi := { dst := some 31, op := Op.load 27 (Operand.tmp 5), type := 27, pos := "store.go:53", after := #[], guard := none }) rfl (by kernel_rfl) (by kernel_rfl) (by kernel_rfl) (by rfl) hS (vs := [.int .i64 (t.head.height), .int .i64 (t.head.epoch), .int .i64 (t.head.view), .bool t.head.last, .string ⟨List.toArray (t.head.parent)⟩, .string ⟨List.toArray (t.head.state)⟩, .string ⟨List.toArray (t.head.receipts)⟩, .string ⟨List.toArray (t.head.txs)⟩, .string ⟨List.toArray (t.head.members)⟩, .string ⟨List.toArray (t.head.next)⟩, .slice ka t.head.skips.length kc, .slice ma t.set.length mc, .int .i64 (t.at_)]) (fun _ _ _ h => h) (.tmp 5) rfl rfl (rfl) (fun w hb2 => N2.mod hb2 (by simp; omega)) ?_
  try simp only [Act.put, List.setIfInBounds_toArray, List.set_cons_zero, List.set_cons_succ]
  refine wpH_op 8 (oi := { dst := none, op := Op.mapUpdate 120 (Operand.tmp 27) (Operand.tmp 30) (Operand.tmp 31), type := 0, pos := "store.go:53", after := #[{ on := 3, ground := Ground.data }, { on := 6, ground := Ground.data }, { on := 7, ground := Ground.data }, { on := 0, ground := Ground.phase }, { on := 1, ground := Ground.phase }, { on := 2, ground := Ground.phase }, { on := 3, ground := Ground.phase }, { on := 4, ground := Ground.phase }, { on := 5, ground := Ground.phase }, { on := 6, ground := Ground.phase }, { on := 7, ground := Ground.phase }], guard := none }) rfl (by kernel_rfl) (by rfl) ?_
  refine wp_mapT (.tmp 27) (.tmp 30) (.tmp 31) rfl rfl hM2.drew hT t.head.height hh rfl rfl (show TRow _ base _ t from ⟨_, _, rfl, r3.drew, r4.kept (fun k _ => rfl)⟩) ?_
  rintro w7 hM7 hg7
  have m7 : Mod [m] _ w7 := hS.trans (grown_mod hg7)
  refine ⟨m7, ?_⟩
  try simp only [Act.put, List.setIfInBounds_toArray, List.set_cons_zero, List.set_cons_succ]
  refine wpAnyH_done (by kernel_rfl) ?_ _
  have hB7 := HB2.out.mod m7 (by simp; omega)
  go_wp2_with fail
  go_ret
  exact ⟨rfl, hM7, hB7, hmx.trans m7⟩
set_option maxRecDepth 100000 in
set_option maxHeartbeats 4000000 in
theorem tchange_goes (base q m : Nat) (span : Int) (jp : Value) (T : List (Int × Tr)) (k : Nat) (hT : T.length < 1000000) (hk9 : k < 9223372036854775808) (hin : (k : Int) ∈ hts T) (w : World) (hM : TrM w base m T) (hqm : q ≠ m) (B : Blk w q #[.map (some m), .int .i64 (span), jp]) :
    Calls Tryz.prog 69 #[.pointer (some ⟨q, 0, none⟩), .string ⟨List.toArray (2 :: num k)⟩] w fun e w' => e = .returned (.bool true) ∧ TrM w' base m (delK T k) ∧ Blk w' q #[.map (some m), .int .i64 (span), jp] ∧ Mod [m] w w' := by
  have hl := num_len k
  have h1 := fun W p (h : Rdr W p (num k) 0) => rnum_any (num k) 0 p W h
  have e1 : mNum (num k) 0 = (k, [], 0) := by
    have h := take_num k hk9 []
    rw [List.append_nil] at h
    unfold mNum
    rw [if_neg (by simp), h, if_neg (by simp)]
  rw [e1] at h1
  simp only at h1
  have h2 := fun W p (h : Rdr W p [] 0) => rend_any [] 0 p W h
  rw [show mEnd [] 0 = 0 from rfl] at h2
  have q1 := fun W => readNew (num k) W
  clear e1
  generalize num k = X at *
  have hml := hM.lt
  have hql := B.lt
  have HM := Lib.hid hM
  have HB := Lib.hid B
  obtain ⟨t, ht⟩ := hts_mem hin
  have k1 : (1 : Int) ≤ (X.length : Int) + 1 := by omega
  have HT := Lib.hid ht
  have HIN := Lib.hid hin
  clear hM B ht hin
  go_enter Tryz.func69, Tryz.ntmps69
  go_wp2_with fail
  refine (q1 _).mono ?_
  rintro e w1 ⟨rfl, hw1⟩
  obtain ⟨p, hp⟩ : ∃ p, p = w.heap.size := ⟨_, rfl⟩
  have R1 : Rdr w1 p X 0 := by rw [hw1, hp]; exact Rdr.new (by omega)
  have hb1 : Below w.heap.size w w1 := by rw [hw1]; exact Below.allocS (Below.refl _ _) _
  have hpw : w.heap.size ≤ p := by omega
  rw [← hp]
  clear hw1 q1 hp
  go_wp2_with fail
  refine (h1 _ _ R1).mono ?_
  rintro e w2 ⟨rfl, R2, m2⟩
  have hb2 := Below.mod hb1 m2 hb1.size (by simp; omega)
  have hpl := R2.lt
  clear h1 R1 m2 hb1
  have hM2 := HM.out.keep hb2
  have hB2 := HB.out.keep hb2
  have hs2 := hb2.size
  obtain ⟨v, hrun, hv, _⟩ := hM2.look (k : Int) (by omega)
  have hv := hv t HT.out
  rw [show decide ((k : Int) ∈ hts T) = true from decide_eq_true HIN.out] at hrun
  obtain ⟨sk, ms, rfl, r1, r2⟩ := hv
  obtain ⟨ka, kc, rfl⟩ := r1.form
  obtain ⟨ma, mc, rfl⟩ := r2.form
  obtain ⟨b1, b2, b3⟩ := id hB2
  have HB2 := Lib.hid hB2
  have HM2 := Lib.hid hM2
  clear hB2 hM2 r1 r2
  go_wp2_with (first
    | (refine wpList_rowStore row_trust rfl rfl (.tmp 9) (.tmp 46) rfl rfl rfl (vs := [.int .i64 (t.head.height), .int .i64 (t.head.epoch), .int .i64 (t.head.view), .bool t.head.last, .string ⟨List.toArray (t.head.parent)⟩, .string ⟨List.toArray (t.head.state)⟩, .string ⟨List.toArray (t.head.receipts)⟩, .string ⟨List.toArray (t.head.txs)⟩, .string ⟨List.toArray (t.head.members)⟩, .string ⟨List.toArray (t.head.next)⟩, .slice ka t.head.skips.length kc, .slice ma t.set.length mc, .int .i64 (t.at_)]) rfl (by simp [Value.oneCell']) (us := [.int .i64 (0), .int .i64 (0), .int .i64 (0), .bool false, .string ⟨List.toArray ([])⟩, .string ⟨List.toArray ([])⟩, .string ⟨List.toArray ([])⟩, .string ⟨List.toArray ([])⟩, .string ⟨List.toArray ([])⟩, .string ⟨List.toArray ([])⟩, .slice none 0 0, .slice none 0 0, .int .i64 (0)]) rfl (Blk.new' (by simp)) ?_; intro w3 N3 m3; have hb3 := Below.mod (Below.allocS (Below.refl w2.heap.size w2) (.cells #[.int .i64 (0), .int .i64 (0), .int .i64 (0), .bool false, .string ⟨List.toArray ([])⟩, .string ⟨List.toArray ([])⟩, .string ⟨List.toArray ([])⟩, .string ⟨List.toArray ([])⟩, .string ⟨List.toArray ([])⟩, .string ⟨List.toArray ([])⟩, .slice none 0 0, .slice none 0 0, .int .i64 (0)] 27)) m3 (by simp) (by simp))
    | fail)
  have R3 : Rdr w3 p [] 0 := R2.keepW hb3
  have hbx := hb2.trans (hb3.mono hb2.size)
  refine (h2 _ _ R3).mono ?_
  rintro e w4 ⟨rfl, m4⟩
  have hb4 := Below.mod hbx m4 hbx.size (by simp; omega)
  have hM4 := HM.out.keep hb4
  have hB4 := HB.out.keep hb4
  obtain ⟨D, ho, hD⟩ := id hM4
  obtain ⟨b1, b2, b3⟩ := id hB4
  have hmx := Mod.of_below (l := [m]) hb4
  have HB4 := Lib.hid hB4
  have HD := Lib.hid hD
  clear h2 R2 R3 hbx hb3 m4 N3 m3 hB4 hM4 hD hrun HB2 HM2
  go_wp2_with (first
    | (at_delete; refine wpList_delete_own _ rfl _ _ 120 3 rfl 27 keyedI Tryz.underlying120 hTv m _ D rfl ho _ _ rfl (keyI (k : Int) (by omega)) ?_; intro w5 ho5 ht5)
    | fail)
  have hg5 := ht5.grown
  obtain ⟨es, c, hblk⟩ := ownsMap_block ho
  have htd := ho.tidy keyedI
  have hD2 := HD.out.del htd HIN.out
  have ho7 := ownsMap_tight ho5
  rw [hD2.size] at ho7
  have hM5 : TrM w5 base m (delK T k) := ⟨_, ho7, hD2.has, fun e he => (by obtain ⟨v, g1, g2⟩ := hD2.val e he; exact ⟨v, g1, g2.grown hblk hg5⟩), hD2.nodup, hD2.size⟩
  have m5 : Mod [m] _ w5 := grown_mod hg5
  have hB5 := HB4.out.mod m5 (by simp; omega)
  go_ret
  exact ⟨rfl, hM5, hB5, hmx.trans m5⟩
end Go.Proofs.YthgjdaomcpinaaaGreatDoor

/- Walks of layer 2: a list out of a reader, of a greater bound. -/
set_option linter.unusedSimpArgs false
set_option linter.unusedVariables false
namespace Go.Proofs.YthgjdaomcpinaaaGreatDoor
open Go.RowKit Pl

set_option maxRecDepth 100000 in
set_option maxHeartbeats 400000 in
theorem rlistL_any (s : Bs) (c most each : Int) (p : Nat) (w : World) (R : Rdr w p s c) (hm : most ≤ 100000) :
    Calls Tryz.prog 175 #[.pointer (some ⟨p, 0, none⟩), .int .i64 (most), .int .i64 (each)] w fun e w' => ∃ v, e = .returned v ∧ SRow w' w.heap.size v (mList s c most each).1 ∧ Rdr w' p (mList s c most each).2.1 (mList s c most each).2.2 ∧ Mod [p] w w' := by
  obtain ⟨l, a, h1, h2, rfl, B⟩ := id R
  obtain ⟨b1, b2, b3⟩ := id B
  by_cases hc : c = 0
  · subst hc
    have hfl : a ≤ 9223372036854775807 := by omega
    by_cases he : (Pl.take (l.drop a)).2.2 = 0
    · by_cases hmo : most < (Pl.take (l.drop a)).1
      · rw [mList_long _ _ _ he hmo]
        have hd : decide (most < ((Pl.take (l.drop a)).1 : Int)) = true := by simpa using hmo
        go_enter Tryz.func175, Tryz.ntmps175
        go_wp2_with fail
        refine (number_ok l a p _ h1 h2 B).mono ?_
        rintro e w1 ⟨rfl, ⟨x, hx1, hx2, B1, hx3⟩, m1⟩
        rw [he]
        clear hx3 he hx2 b1 b2 b3
        generalize (Pl.take (l.drop a)).1 = n at *
        go_wp2_with fail
        go_loopw [9, 11, 12] (fun s9 s11 s12 wr => s9 = .int .i64 (2) ∧ s11 = .slice none 0 0 ∧ s12 = .int .i64 (0) ∧ wr = w1) (fun _ _ _ _ => 0)
        case atStart => exact ⟨rfl, rfl, rfl, rfl⟩
        case round =>
          obtain ⟨rfl, rfl, rfl, rfl⟩ := hrel
          go_wp2_with fail
          all_goals
            refine (refused_yes l x a 2 p _ B1).mono ?_
            rintro e w2 ⟨rfl, B2, m2⟩
            go_wp2_with fail
            go_ret
            exact ⟨.slice none 0 0, rfl, SRow.nil _ _, ⟨l, a, h1, h2, rfl, B2⟩, m1.trans m2⟩
      · generalize hr : mList (l.drop a) 0 most each = r
        have HR : Hid (mListIn (l.drop a) (lGo each (Pl.take (l.drop a)).1 (Pl.take (l.drop a)).2.1) = r) := Lib.hid (by rw [← hr, mList_in _ _ _ he hmo])
        clear hr
        have hd : decide (most < ((Pl.take (l.drop a)).1 : Int)) = false := by simpa using hmo
        go_enter Tryz.func175, Tryz.ntmps175
        go_wp2_with fail
        refine (number_ok l a p _ h1 h2 B).mono ?_
        rintro e w1 ⟨rfl, ⟨x0, hx1, hx2, B1, hx3⟩, m1⟩
        have HX := Lib.hid (hx3 he)
        rw [he]
        clear hx3 he hx2 b1 b2 b3
        have hn1 : (Pl.take (l.drop a)).1 ≤ 100000 := by omega
        generalize (Pl.take (l.drop a)).1 = n at *
        generalize (Pl.take (l.drop a)).2.1 = s0 at *
        go_wp2_with fail
        go_loopw [9, 11, 12] (fun s9 s11 s12 wr => ∃ (i x : Nat) (e : Int) (acc : List Bs), i ≤ n ∧ acc.length ≤ i ∧ s12 = .int .i64 (i) ∧ s9 = .int .i64 (e) ∧ SRow wr w.heap.size s11 acc ∧ x ≤ l.length ∧ Blk wr p #[.string ⟨List.toArray (l)⟩, .int .i64 (x), .int .i64 (0)] ∧ Mod [p] w wr ∧
            Hid ((e = 0 → lGo each n s0 = (acc ++ (lGo each (n - i) (l.drop x)).1, (lGo each (n - i) (l.drop x)).2)) ∧ (e ≠ 0 → (lGo each n s0).2.2 = e))) (fun _ _ s12 _ => n - (intOf s12).toNat)
        case atStart => exact ⟨0, x0, 0, [], by omega, by simp, rfl, rfl, SRow.nil _ _, hx1, B1, m1, Lib.hid ⟨fun _ => by rw [HX.out]; simp, fun h => absurd rfl h⟩⟩
        case round =>
          clear m1 B1 hx1 HX
          obtain ⟨i, x, e, acc, hi, hac, rfl, rfl, hS, hx1, B1, m1, HG⟩ := hrel
          obtain ⟨b1, b2, b3⟩ := id B1
          have hpw : p < w.heap.size := B.lt
          by_cases he : e = 0
          · subst he
            by_cases hlt : i < n
            · have hlt' : (i : Int) < (n : Int) := by omega
              have hG := HG.out.1 rfl
              obtain ⟨k, hk⟩ : ∃ k, n - i = k + 1 := ⟨n - i - 1, by omega⟩
              rw [hk] at hG
              have HS := Lib.hid (lGo_step each k (l.drop x))
              have HB := Lib.hid (lGo_bad each k (l.drop x))
              have HK := Lib.hid (show n - (i + 1) = k by omega)
              have HGG := Lib.hid hG
              clear hG hk HG
              go_wp2_with fail
              refine (rtext_in l x each p _ h1 hx1 B1).mono ?_
              rintro e w2 ⟨rfl, ⟨y, hy1, B2, hy3⟩, m2⟩
              have hS2 := hS.mod m2 hpw
              have HY := Lib.hid hy3
              clear hy3
              by_cases ht : (tx (l.drop x) each).2.2 = 0
              · have HT := Lib.hid ht
                have hsz := (m1.trans m2).size
                rw [ht]
                clear ht
                go_wp2_with (first
                  | (at_builtin; refine wpList_appS rfl (.tmp 49) (.tmp 51) rfl w.heap.size _ acc rfl (hS2.alloc _) w2.heap.size 0 1 1 [(tx (l.drop x) each).1] rfl rfl (ssrc1 _ _ _) (by simp; omega) (by simp; omega) ?_; rintro v' w7 hS7 hb7)
                  | fail)
                have m7 : Mod [p] w w7 := ((m1.trans m2).alloc _).grow hb7
                have B7 : Blk w7 p #[.string ⟨List.toArray (l)⟩, .int .i64 (y), .int .i64 (0)] := (B2.alloc _).of_block (hb7.block p hpw) hb7.size
                refine ⟨⟨i + 1, y, 0, acc ++ [(tx (l.drop x) each).1], by omega, by simp; omega, by go_num, rfl, hS7, hy1, B7, m7, Lib.hid ⟨fun _ => ?_, fun h => absurd rfl h⟩⟩, by simp [intOf]; omega⟩
                rw [HGG.out, HS.out HT.out, HK.out, HY.out HT.out]
                simp
              · have hc2 : ((tx (l.drop x) each).2.2 == 0) = false := by simpa using ht
                have HT := Lib.hid ht
                generalize he2 : (tx (l.drop x) each).2.2 = e2 at *
                have hte : ¬ e2 = 0 := ht
                have HE := Lib.hid he2
                clear he2
                go_wp2_with fail
                refine ⟨⟨i + 1, y, e2, acc, by omega, by omega, by go_num, rfl, hS2, hy1, B2, m1.trans m2, Lib.hid ⟨fun h => absurd h HT.out, fun _ => ?_⟩⟩, by simp [intOf]; omega⟩
                rw [HGG.out]
                exact HB.out HT.out
            · obtain rfl : i = n := by omega
              have hG := HG.out.1 rfl
              rw [Nat.sub_self, lGo, List.append_nil] at hG
              have HZ : Hid ((acc, l.drop x, (0 : Int)) = r) := Lib.hid (by rw [← HR.out, hG]; simp [mListIn])
              clear HG hG HR
              go_wp2_with fail
              all_goals (go_ret; refine ⟨_, rfl, ?_, ?_, m1⟩)
              · rw [← HZ.out]; exact hS
              · rw [← HZ.out]; exact ⟨l, x, h1, hx1, rfl, B1⟩
          · have HZ : Hid (([], l.drop a, e) = r) := Lib.hid (by rw [← HR.out]; unfold mListIn; rw [HG.out.2 he, if_pos he])
            have hc2 : (e != 0) = true := by simpa using he
            have hc3 : (e == 0) = false := by simpa using he
            clear HG HR
            go_wp2_with fail
            all_goals
              refine (refused_yes l x a e p _ B1).mono ?_
              rintro e w2 ⟨rfl, B2, m2⟩
              go_wp2_with fail
              go_ret
              refine ⟨.slice none 0 0, rfl, ?_, ?_, m1.trans m2⟩
              · rw [← HZ.out]; exact SRow.nil _ _
              · rw [← HZ.out]; exact ⟨l, a, h1, h2, rfl, B2⟩
    · rw [mList_bad _ _ _ he]
      generalize he0 : (Pl.take (l.drop a)).2.2 = e0 at *
      have HE := Lib.hid he0
      clear he0
      have hc2 : (e0 != 0) = true := by simpa using he
      have hc3 : (e0 == 0) = false := by simpa using he
      go_enter Tryz.func175, Tryz.ntmps175
      go_wp2_with fail
      refine (number_ok l a p _ h1 h2 B).mono ?_
      rintro e w1 ⟨rfl, ⟨x, hx1, hx2, B1, hx3⟩, m1⟩
      rw [HE.out]
      clear hx3 hx2 b1 b2 b3 HE
      generalize (Pl.take (l.drop a)).1 = n at *
      go_wp2_with fail
      go_loopw [9, 11, 12] (fun s9 s11 s12 wr => s9 = .int .i64 (e0) ∧ s11 = .slice none 0 0 ∧ s12 = .int .i64 (0) ∧ wr = w1) (fun _ _ _ _ => 0)
      case atStart => exact ⟨rfl, rfl, rfl, rfl⟩
      case round =>
        obtain ⟨rfl, rfl, rfl, rfl⟩ := hrel
        go_wp2_with fail
        all_goals
          refine (refused_yes l x a e0 p _ B1).mono ?_
          rintro e w2 ⟨rfl, B2, m2⟩
          go_wp2_with fail
          go_ret
          exact ⟨.slice none 0 0, rfl, SRow.nil _ _, ⟨l, a, h1, h2, rfl, B2⟩, m1.trans m2⟩
  · rw [mList_c _ _ _ _ hc]
    have hc2 : (c != 0) = true := by simpa using hc
    have hc3 : (c == 0) = false := by simpa using hc
    go_enter Tryz.func175, Tryz.ntmps175
    go_wp2_with fail
    refine (number_bad l a c hc p _ B).mono ?_
    rintro e w1 ⟨rfl, nq, rfl⟩
    go_wp2_with fail
    go_loopw [9, 11, 12] (fun s9 s11 s12 wr => s9 = .int .i64 (c) ∧ s11 = .slice none 0 0 ∧ s12 = .int .i64 (0) ∧ wr = w.drewN nq) (fun _ _ _ _ => 0)
    case atStart => exact ⟨rfl, rfl, rfl, rfl⟩
    case round =>
      obtain ⟨rfl, rfl, rfl, rfl⟩ := hrel
      go_wp2_with fail
      refine (refused_no l a a c c hc p _ (B.drewN nq)).mono ?_
      rintro e w2 ⟨rfl, rfl⟩
      go_wp2_with fail
      go_ret
      exact ⟨.slice none 0 0, rfl, SRow.nil _ _, R.drewN nq, (Mod.refl _ _).drewN nq⟩
end Go.Proofs.YthgjdaomcpinaaaGreatDoor

/- Layer 32: the batch of the record at the beginning: the program's walk of next. -/
set_option linter.unusedSimpArgs false
set_option linter.unusedVariables false
namespace Go.Proofs.YthgjdaomcpinaaaGreatDoor
open Go.RowKit Pl

theorem rleft_any (s : Bs) (c : Int) (p : Nat) (w : World) (R : Rdr w p s c) :
    Calls Tryz.prog 111 #[.pointer (some ⟨p, 0, none⟩)] w fun e w' => e = .returned (.int .i64 ((s.length : Int))) ∧ ∃ n, w' = w.drewN n := by
  obtain ⟨l, a, h1, h2, rfl, B⟩ := id R
  have h := left_any l a c p w h1 h2 B
  rw [show ((l.length : Int) - (a : Int)) = ((l.drop a).length : Int) from by rw [List.length_drop]; omega] at h
  exact h
/-- What next answers. -/
def nextOk (w w' : World) (R : Option (List Bs × Nat)) (e : Ending) : Prop :=
  Below w.heap.size w w' ∧ (∀ x, R = some x → ∃ v, e = .returned (.tuple #[v, .int .i64 ((x.2 : Int)), .bool true]) ∧ SRow w' w.heap.size v x.1) ∧ (R = none → e = .returned (.tuple #[.slice none 0 0, .int .i64 (0), .bool false]))
theorem nextOk.no {w w' : World} {R : Option (List Bs × Nat)} (hb : Below w.heap.size w w') (h : R = none) : nextOk w w' R (.returned (.tuple #[.slice none 0 0, .int .i64 (0), .bool false])) :=
  ⟨hb, fun x hx => (by rw [h] at hx; cases hx), fun _ => rfl⟩
theorem nextOk.yes {w w' : World} {R : Option (List Bs × Nat)} {b : List Bs} {n : Nat} {v : Value} (hb : Below w.heap.size w w') (h : R = some (b, n)) (hv : SRow w' w.heap.size v b) : nextOk w w' R (.returned (.tuple #[v, .int .i64 ((n : Int)), .bool true])) :=
  ⟨hb, fun x hx => (by rw [h] at hx; cases hx; exact ⟨v, rfl, hv⟩), fun h2 => (by rw [h] at h2; cases h2)⟩
set_option maxRecDepth 100000 in
set_option maxHeartbeats 4000000 in
theorem jnext_any (s : Bs) (hs : s.length ≤ 1048576) (w : World) (hk : KT w) :
    Calls Tryz.prog 153 #[.string ⟨List.toArray (s)⟩] w fun e w' => nextOk w w' (nextP s) e := by
  have hr := nText_len s
  obtain ⟨n, hn⟩ : ∃ n, n = nLong s := ⟨_, rfl⟩
  have hn2 : n + (nText s).2.1.length = s.length := by rw [hn]; unfold nLong; omega
  have hLl : ((nText s).1.length : Int) ≤ 524288 := mText_le s 0 524288 (by omega)
  have h1 := fun W (h : Rdr W w.heap.size s 0) => rtext_any s 0 524288 w.heap.size W h
  rw [show mText s 0 524288 = nText s from rfl] at h1
  have HN : Hid (nextP s = if (mBytes (nText s).2.1 (nText s).2.2 4).2.2 = 0 ∧ (sumP (s.take n)).take 4 = (mBytes (nText s).2.1 (nText s).2.2 4).1 ∧ mEnd (mList (nText s).1 0 1024 65536).2.1 (mList (nText s).1 0 1024 65536).2.2 = 0 then some ((mList (nText s).1 0 1024 65536).1, n + 4) else none) := Lib.hid (by rw [hn]; rfl)
  clear hn hr
  generalize nextP s = R at *
  generalize nText s = y at *
  obtain ⟨L, s1, c1⟩ := y
  simp only at HN h1 hn2 hLl
  have h2 := fun W (h : Rdr W w.heap.size s1 c1) => bytes_any s1 c1 4 w.heap.size W (by omega) h
  generalize mBytes s1 c1 4 = y at *
  obtain ⟨X, s2, c2⟩ := y
  have h3 := fun W p (h : Rdr W p L 0) => rlistL_any L 0 1024 65536 p W h (by omega)
  generalize mList L 0 1024 65536 = y at *
  obtain ⟨b, s3, c3⟩ := y
  simp only at HN h2 h3
  have h4 := fun W p (h : Rdr W p s3 c3) => rend_any s3 c3 p W h
  generalize mEnd s3 c3 = ce at *
  have h5 := fun W (hb : Below w.heap.size w W) => shasum_any (s.take n) (by rw [List.length_take]; omega) W (hk.keep hb)
  have hsl := sumP_len (s.take n)
  generalize hD : sumP (s.take n) = D at *
  have e0 := readNew s w
  have eL := fun W => readNew L W
  have hW1 : IntKind.i64.wrap ((s.length : Int) - (s1.length : Int)) = (n : Int) := by rw [IntKind.wrap_i64]; omega
  have hW2 : IntKind.i64.wrap ((n : Int) + 4) = (n : Int) + 4 := by rw [IntKind.wrap_i64]; omega
  have hnb : n ≤ s.length := by omega
  have hn0 : (0 : Int) ≤ (n : Int) ∧ (n : Int) ≤ (s.length : Int) := by omega
  clear hD hn2
  go_enter Tryz.func153, Tryz.ntmps153
  go_wp2_with fail
  refine e0.mono ?_
  rintro e w1 ⟨rfl, hw1⟩
  have R0 : Rdr w1 w.heap.size s 0 := by rw [hw1]; exact Rdr.new (by omega)
  have hb1 : Below w.heap.size w w1 := by rw [hw1]; exact Below.allocS (Below.refl _ _) _
  clear hw1 e0
  go_wp2_with fail
  refine (h1 _ R0).mono ?_
  rintro e w2 ⟨rfl, R1, m1⟩
  have hb2 := Below.mod hb1 m1 hb1.size (by simp)
  clear h1 R0 m1 hb1
  go_wp2_with fail
  refine (rleft_any s1 c1 _ _ R1).mono ?_
  rintro e w3 ⟨rfl, n3, rfl⟩
  have R2 := R1.drewN n3
  have hb3 := below_drewN hb2 n3
  generalize w2.drewN n3 = w3 at *
  clear R1 hb2
  go_wp2_with fail
  refine (h2 _ R2).mono ?_
  rintro e w4 ⟨rfl, R3, m3⟩
  have hb4 := Below.mod hb3 m3 hb3.size (by simp)
  clear h2 R2 m3 hb3
  go_wp2_with fail
  refine (rcode_any s2 c2 _ _ R3).mono ?_
  rintro e w5 ⟨rfl, n5, rfl⟩
  have R4 := R3.drewN n5
  have hb5 := below_drewN hb4 n5
  generalize w4.drewN n5 = w5 at *
  clear R3 hb4
  by_cases hc : c2 = 0
  · subst hc
    go_wp2_with fail
    refine (h5 _ hb5).mono ?_
    rintro e w6 ⟨rfl, hb⟩
    have hb6 := hb5.trans (hb.mono hb5.size)
    clear h5 hb hb5
    by_cases hx : D.take 4 = X
    · have g1 : (D.take 4 != X) = false := by simpa using hx
      have g3 : (D.take 4 == X) = true := by simpa using hx
      go_wp2_with fail
      refine (eL _).mono ?_
      rintro e w7 ⟨rfl, hw7⟩
      obtain ⟨p, hp⟩ : ∃ p, p = w6.heap.size := ⟨_, rfl⟩
      have R6 : Rdr w7 p L 0 := by rw [hw7, hp]; exact Rdr.new (by omega)
      have hb7 : Below w.heap.size w w7 := by rw [hw7]; exact hb6.trans ((Below.allocS (Below.refl _ _) _).mono hb6.size)
      have hpw : w.heap.size ≤ p := by have := hb6.size; omega
      rw [← hp]
      clear hw7 hp eL hb6
      go_wp2_with fail
      refine (h3 _ _ R6).mono ?_
      rintro e w8 ⟨v, rfl, hS, R7, m7⟩
      have hb8 := Below.mod hb7 m7 hb7.size (by simp; omega)
      have hS8 := hS.low hb7.size
      have hpl : p < w7.heap.size := R6.lt
      have hSS := hS
      clear h3 R6
      go_wp2_with fail
      refine (h4 _ _ R7).mono ?_
      rintro e w9 ⟨rfl, m8⟩
      have hb9 := Below.mod hb8 m8 hb8.size (by simp; omega)
      have hS9 := (hSS.mod m8 hpl).low hb7.size
      clear h4 R7 m8 hS8 hS hSS m7
      by_cases he : ce = 0
      · subst he
        go_wp2_with fail
        go_ret3
        exact nextOk.yes hb9 (by rw [HN.out, if_pos (by simp [hx])]) hS9
      · have g2 : (ce != 0) = true := by simpa using he
        have hno : R = none := by rw [HN.out, if_neg (fun h => he h.2.2)]
        go_wp2_with fail
        go_ret3
        exact nextOk.no hb9 hno
    · have g1 : (D.take 4 != X) = true := by simpa using hx
      have g3 : (D.take 4 == X) = false := by simpa using hx
      have hno : R = none := by rw [HN.out, if_neg (fun h => hx h.2.1)]
      go_wp2_with fail
      go_ret3
      exact nextOk.no hb6 hno
  · have g2 : (c2 != 0) = true := by simpa using hc
    have hno : R = none := by rw [HN.out, if_neg (fun h => hc h.1)]
    go_wp2_with fail
    go_ret3
    exact nextOk.no hb5 hno
end Go.Proofs.YthgjdaomcpinaaaGreatDoor

/- Layer 32: all batches that are whole: the program's walk of Scan. -/
set_option linter.unusedSimpArgs false
set_option linter.unusedVariables false
namespace Go.Proofs.YthgjdaomcpinaaaGreatDoor
open Go.RowKit Pl

namespace Pl
theorem recsP_drop (B : List (List Bs)) (tail : Bs) (i : Nat) : (recsP B ++ tail).drop (recsP (B.take i)).length = recsP (B.drop i) ++ tail := by
  have h : recsP B = recsP (B.take i) ++ recsP (B.drop i) := by rw [← recsP_app, List.take_append_drop]
  rw [h, List.append_assoc, List.drop_left]
theorem recsP_step (B : List (List Bs)) (i : Nat) (hi : i < B.length) : recsP (B.take (i + 1)) = recsP (B.take i) ++ recP (B.getD i []) := by
  rw [List.take_succ_eq_append_getElem hi, recsP_snoc, List.getD_eq_getElem?_getD, List.getElem?_eq_getElem hi]
  rfl
theorem recsP_le (B : List (List Bs)) (i : Nat) : (recsP (B.take i)).length ≤ (recsP B).length := by
  have h : recsP B = recsP (B.take i) ++ recsP (B.drop i) := by rw [← recsP_app, List.take_append_drop]
  rw [h, List.length_append]
  omega
theorem recsP_four : ∀ (B : List (List Bs)), 4 * B.length ≤ (recsP B).length
  | [] => by simp
  | b :: B => by
    have h1 := recsP_four B
    have h2 := recP_pos b
    rw [recsP_cons, List.length_append, List.length_cons]
    omega
end Pl
set_option maxRecDepth 100000 in
set_option maxHeartbeats 4000000 in
theorem jscan_any (B : List (List Bs)) (tail : Bs) (hB : ∀ b ∈ B, mayR b = true) (ht : nextP tail = none) (hl : (recsP B ++ tail).length ≤ 1048576) (w : World) (hk : KT w) :
    Calls Tryz.prog 122 #[.string ⟨List.toArray (recsP B ++ tail)⟩] w fun e w' => ∃ v, e = .returned (.tuple #[v, .int .i64 (((recsP B).length : Int))]) ∧ LS w' w.heap.size v B ∧ Below w.heap.size w w' := by
  have HL := Lib.hid (recsP_le B)
  have h4 := recsP_four B
  have hBl : B.length ≤ 262144 := by rw [List.length_append] at hl; omega
  obtain ⟨s, hs⟩ : ∃ s, s = recsP B ++ tail := ⟨_, rfl⟩
  have HD := Lib.hid (fun i => recsP_drop B tail i)
  have hsl : s.length = (recsP B).length + tail.length := by rw [hs, List.length_append]
  rw [← hs] at HD hl ⊢
  have HS := Lib.hid (recsP_step B)
  have HB := Lib.hid hB
  have HT := Lib.hid ht
  have HSL := Lib.hid hsl
  have HZ : Hid ((recsP (B.take 0)).length = 0 ∧ (recsP (B.take B.length)).length = (recsP B).length) := Lib.hid ⟨rfl, by rw [List.take_length]⟩
  clear hs hsl hB ht h4
  go_enter Tryz.func122, Tryz.ntmps122
  go_wp2_with fail
  go_step3
  go_wp2_with fail
  go_step3
  go_wp2_with fail
  go_loopw [2, 3] (fun s2 s3 wr => ∃ (i n : Nat), i ≤ B.length ∧ Hid (n = (recsP (B.take i)).length) ∧ s3 = .int .i64 (n) ∧ LS wr w.heap.size s2 (B.take i) ∧ Below w.heap.size w wr) (fun s2 s3 _ => s.length - (intOf s3).toNat)
  case atStart => exact ⟨0, 0, by omega, Lib.hid rfl, rfl, LS.nil _ _, Below.refl _ _⟩
  case round =>
    obtain ⟨i, n, hi, HN, rfl, hS, hb⟩ := hrel
    have hti : (B.take i).length = i := by rw [List.length_take]; omega
    obtain ⟨sa, sc, hsv⟩ := hS.form
    rw [hti] at hsv
    subst hsv
    have hnl : n ≤ s.length := by rw [HN.out]; have := HL.out i; have := HSL.out; omega
    have hDn : s.drop n = recsP (B.drop i) ++ tail := by rw [HN.out]; exact HD.out i
    by_cases hlt : i < B.length
    · have hst := HS.out i hlt
      have hmem : B.getD i [] ∈ B := by rw [List.getD_eq_getElem?_getD, List.getElem?_eq_getElem hlt]; exact List.getElem_mem _
      have hmy := HB.out _ hmem
      have hD2 : s.drop n = recP (B.getD i []) ++ (recsP (B.drop (i + 1)) ++ tail) := by
        rw [hDn, List.drop_eq_getElem_cons hlt, recsP_cons, List.append_assoc, List.getD_eq_getElem?_getD, List.getElem?_eq_getElem hlt]
        rfl
      have hnx := nextP_rec hmy (recsP (B.drop (i + 1)) ++ tail)
      rw [← hD2] at hnx
      have hrp := recP_pos (B.getD i [])
      have hln : n + (recP (B.getD i [])).length ≤ s.length := by
        have h := congrArg List.length hD2
        rw [List.length_drop, List.length_append] at h
        omega
      have HN2 : Hid (n + (recP (B.getD i [])).length = (recsP (B.take (i + 1))).length) := Lib.hid (by rw [hst, List.length_append, HN.out])
      have HTK : Hid (B.take (i + 1) = B.take i ++ [B.getD i []]) := Lib.hid (by rw [List.take_succ_eq_append_getElem hlt, List.getD_eq_getElem?_getD, List.getElem?_eq_getElem hlt]; rfl)
      have q1 := jnext_any (s.drop n) (by rw [List.length_drop]; omega) wr (hk.keep hb)
      rw [hnx] at q1
      generalize B.getD i [] = b at *
      generalize (recP b).length = m at *
      have i1 : decide ((n : Int) < (s.length : Int)) = true := by simp; omega
      have i2 : (0 : Int) ≤ (n : Int) ∧ (n : Int) ≤ (s.length : Int) := by omega
      have w1 : IntKind.i64.wrap ((n : Int) + (m : Int)) = (n : Int) + (m : Int) := by rw [IntKind.wrap_i64]; omega
      have hx : (s.drop n).take (s.length - n) = s.drop n := List.take_of_length_le (by rw [List.length_drop]; omega)
      obtain ⟨ts, t1, t2, t3⟩ := hS
      rw [hti] at t1 t2
      have HT1 := Lib.hid t1
      clear hD2 hnx hDn hmem hmy hst HN HD
      go_wp2_with fail
      refine q1.mono ?_
      rintro e w2 hq
      obtain ⟨v, rfl, hv⟩ := hq.2.1 _ rfl
      have hb2 := hb.trans (hq.1.mono hb.size)
      have hr2 := row_belowO t2 hq.1
      have ht3 : ∀ j, j < (B.take i).length → SRow w2 w.heap.size (ts.getD j nilSl) ((B.take i).getD j []) := fun j hj => (t3 j hj).keep hq.1
      have hv2 := hv.low hb.size
      obtain ⟨va, vc, rfl⟩ := hv2.form
      have hs2 := hb2.size
      have HT3 := Lib.hid ht3
      clear q1 hq hv t2 t3 ht3
      go_wp2_with (first
        | (at_builtin; refine wpList_appG rfl (.tmp 21) (.tmp 23) 117 22 (.slice none 0 0) 1 24 Tryz.underlying117 infoSS rfl (by decide) (by decide) rfl w.heap.size i _ ts [.slice va b.length vc] rfl (row_belowO hr2 (Below.allocS (Below.refl _ _) _)) rfl w2.heap.size rfl (fun j u hj => ?_) (by simp [Value.oneCell']) (by omega) (by simp; omega) ?_; rotate_left; intro v5 w5 hr5 hg5 hv5)
        | fail)
      · have hls5 : LS w5 w.heap.size v5 (B.take i ++ [b]) := by
          have hgx := (LS.keep (B := B.take i) (v := .slice sa i sc) (base := w.heap.size) (w := w2) ⟨ts, by rw [hti]; exact HT1.out, by rw [hti]; exact hr2, HT3.out⟩ (Below.allocS (Below.refl _ _) (.cells #[.slice va b.length vc] 22)))
          exact LS.snoc hgx (hv2.keep (Below.allocS (Below.refl _ _) _)) hg5 (by rw [hti]; exact HT1.out) (fun j hj => (HT3.out j hj).keep (Below.allocS (Below.refl _ _) _)) (by rw [hti]; exact row_belowO hr2 (Below.allocS (Below.refl _ _) _)) (by rw [hti]; exact hr5)
        have hbg := grown_below hg5 (by simp; omega) (fun k hk => (row_ltO hr2 hk).1)
        have hb5 := (Below.allocS hb2 (.cells #[.slice va b.length vc] 22)).trans hbg
        rw [← HTK.out] at hls5
        exact ⟨⟨i + 1, n + m, by omega, HN2, by go_num, hls5, hb5⟩, by simp [intOf]; omega⟩
      · rcases j with _ | j
        · simp at hj
          subst hj
          simp
        · simp at hj
    · have hil : i = B.length := by omega
      subst hil
      rw [List.take_length] at hS
      have hnl2 : n = (recsP B).length := by rw [HN.out, List.take_length]
      rw [List.drop_length] at hDn
      have hD2 : s.drop n = tail := by rw [hDn]; rfl
      clear hi hlt hDn HN HD HB hti
      have HNL := Lib.hid hnl2
      by_cases ht0 : n < s.length
      · have i1 : decide ((n : Int) < (s.length : Int)) = true := by simp; omega
        have i2 : (0 : Int) ≤ (n : Int) ∧ (n : Int) ≤ (s.length : Int) := by omega
        have hx : (s.drop n).take (s.length - n) = s.drop n := List.take_of_length_le (by rw [List.length_drop]; omega)
        have q1 := jnext_any (s.drop n) (by rw [List.length_drop]; omega) wr (hk.keep hb)
        rw [show nextP (s.drop n) = none from by rw [hD2]; exact HT.out] at q1
        have HS1 := Lib.hid hS
        have i3 : decide (n < s.length) = true := by simpa using ht0
        clear hnl2 hD2 hS
        go_wp2_with fail
        refine q1.mono ?_
        rintro e w2 hq
        obtain rfl := hq.2.2 rfl
        have hb2 := hb.trans (hq.1.mono hb.size)
        have hS2 := HS1.out.keep hq.1
        clear q1 hq
        go_wp2_with fail
        rw [Exit.noGoto_ret]
        go_ret2
        exact ⟨_, (by rw [HNL.out]; rfl), hS2, hb2⟩
      · have i1 : decide ((n : Int) < (s.length : Int)) = false := by simp; omega
        have i0 : decide (n < s.length) = false := by simpa using ht0
        clear hnl2 hD2
        go_wp2_with fail
        all_goals
          rw [Exit.noGoto_ret]
          go_ret2
          exact ⟨_, (by rw [HNL.out]; rfl), hS, hb⟩
end Go.Proofs.YthgjdaomcpinaaaGreatDoor
