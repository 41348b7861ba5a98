/- PutA, Texts, Item, Walk. -/
import Derived.Test.YtdaihimdkgmboaaDoorMg1
import Derived.Test.YtdaihimdkgmboaaDoorMg4
import Derived.Test.YtdaihimdkgmboaaDoorMg7
import Derived.Test.YtdaihimdkgmboaaDoorMg9
set_option linter.unnecessarySimpa false

/- Walks of layer 10: an item is put, at whatever trie. -/
set_option linter.unusedSimpArgs false
set_option linter.unusedVariables false
namespace Go.Proofs.YtdaihimdkgmboaaDoor
open Go.RowKit Pl

set_option maxRecDepth 100000 in
set_option maxHeartbeats 8000000 in
theorem put_leaf (p0 w0 : Bs) (n : Nat) (hn : n ≤ 400) (b : Nat) (q v : Bs) (hq : q.length ≤ n) (ho : okT (.leaf p0 w0) n) (h1 : common p0 q = p0.length) (h2 : common p0 q = q.length) (w : World) (hk : KT w) (hT : KAt w (.leaf p0 w0) (some b)) :
    Calls Tryd.prog 63 #[.pointer (some ⟨b, 0, none⟩), .string ⟨List.toArray (q)⟩, .string ⟨List.toArray (v)⟩] w (KOut w.heap.size w (.leaf q v)) := by
  obtain ⟨hne, ps, hps, ⟨c0, c1, c2, _, _, _, c6⟩, _⟩ := hT.open
  simp only [kindT, pathT] at c0 c1
  have hop := ho.2
  have hcm := fun W => ncommon_any p0 q (by omega) (by omega) W
  rw [h1] at h2
  rw [h1] at hcm
  have e1 : (p0.length : Int) = (q.length : Int) := by omega
  have HCM := Lib.hid hcm
  have HLF := Lib.hid (fun W (h : KT W) => leaf_any q v (by omega) W h)
  have HK := Lib.hid hk
  have hw2 : ((p0.length : Int) == (q.length : Int)) = true := by simpa using e1
  clear hcm hps hne hT hk c2 c6 ho h1 h2 e1
  go_enter Tryd.func63, Tryd.ntmps63
  go_wp2_with fail
  refine (HCM.out _).mono ?_
  rintro e w1 ⟨rfl, n1, rfl⟩
  have hb1 : Below w.heap.size w (w.drewN n1) := below_drewN (Below.refl _ _) _
  go_wp2_with fail
  refine (HLF.out _ (HK.out.keep hb1)).mono ?_
  rintro e w2 ⟨b2, rfl, hb2, hK2⟩
  go_wp2_with fail
  go_ret
  exact ⟨b2, rfl, hb1.trans (hb2.mono hb1.size), hK2⟩

set_option maxRecDepth 100000 in
set_option maxHeartbeats 8000000 in
theorem put_ext (p0 : Bs) (t1 : Tr) (n : Nat) (hn : n ≤ 400) (b : Nat) (q v : Bs) (hq : q.length ≤ n) (hf : fit q = true) (ho : okT (.ext p0 t1) n) (h1 : common p0 q = p0.length) (w : World) (hk : KT w) (hT : KAt w (.ext p0 t1) (some b))
    (ih : ∀ (p : Option Nat) (w : World), KT w → KAt w t1 p → Calls Tryd.prog 63 #[ptV p, .string ⟨List.toArray (q.drop p0.length)⟩, .string ⟨List.toArray (v)⟩] w (KOut w.heap.size w (putT t1 (q.drop p0.length) v))) :
    Calls Tryd.prog 63 #[.pointer (some ⟨b, 0, none⟩), .string ⟨List.toArray (q)⟩, .string ⟨List.toArray (v)⟩] w (KOut w.heap.size w (joinT p0 (putT t1 (q.drop p0.length) v))) := by
  obtain ⟨hne, ps, hps, ⟨c0, c1, c2, _, _, _, c6⟩, _⟩ := hT.open
  simp only [kindT, pathT] at c0 c1
  obtain ⟨o1, o2, o3, o4⟩ := ho
  have hcl := common_le p0 q
  rw [h1] at hcl
  have hcm := fun W => ncommon_any p0 q (by omega) (by omega) W
  rw [h1] at hcm
  have hk0 := hps 0 (by omega)
  rw [show kidsOf (.ext p0 t1) 0 = t1 from by simp [kidsOf, updT]] at hk0
  have hokp := okT_put t1 (q.drop p0.length) v (n - p0.length) o4 (fit_split q _ hf).2 (by rw [List.length_drop]; omega)
  have hpl := (okT_path _ _ hokp.1).1
  have HCM := Lib.hid hcm
  have HJN := Lib.hid (fun W (h : KT W) (b' : Nat) (hK : KAt W (putT t1 (q.drop p0.length) v) (some b')) => joined_any p0 _ b' W h hK (by omega))
  have HIH := Lib.hid ih
  have HK := Lib.hid hk
  have HK0 := Lib.hid hk0
  have hst : List.take (q.length - p0.length) (q.drop p0.length) = q.drop p0.length := List.take_of_length_le (by simp)
  have hci : (p0.length : Int) ≤ (q.length : Int) := by omega
  clear hcm hps hne hT hk c2 h1 ih hk0 hokp o3 o4 hpl o2
  generalize putT t1 (q.drop p0.length) v = t2 at *
  go_enter Tryd.func63, Tryd.ntmps63
  go_wp2_with fail
  refine (HCM.out _).mono ?_
  rintro e w1 ⟨rfl, n1, rfl⟩
  have hb1 : Below w.heap.size w (w.drewN n1) := below_drewN (Below.refl _ _) _
  have d1 := keepC hb1 c1
  have d6 := keepC hb1 c6
  go_wp2_with fail
  refine wpH_start (by kernel_rfl) (fun hS => ?_)
  (refine wpH_pure 0 ?_ (oi := { dst := some 86, op := Op.move (Operand.tmp 0), type := 70, pos := "knot.go:92", after := #[], guard := none }) rfl (by kernel_rfl) (by kernel_rfl) (by kernel_rfl) (by rfl) hS (fun _ _ _ h => h) ?_ ?_; rotate_left; focus (intro w; go_simp; try with_reducible rfl))
  try simp only [Act.put, List.setIfInBounds_toArray, List.set_cons_zero, List.set_cons_succ]
  (refine wpH_pure 1 ?_ (oi := { dst := some 87, op := Op.nilCheck (Operand.tmp 86), type := 0, pos := "knot.go:92", after := #[{ on := 0, ground := Ground.data }], guard := none }) rfl (by kernel_rfl) (by kernel_rfl) (by kernel_rfl) (by rfl) hS (fun _ _ _ h => h) ?_ ?_; rotate_left; focus (intro w; go_simp; try with_reducible rfl))
  try simp only [Act.put, List.setIfInBounds_toArray, List.set_cons_zero, List.set_cons_succ]
  (refine wpH_pure 2 ?_ (oi := { dst := some 88, op := Op.fieldAddr 79 (Operand.tmp 87) 0, type := 0, pos := "knot.go:92", after := #[{ on := 1, ground := Ground.data }], guard := none }) rfl (by kernel_rfl) (by kernel_rfl) (by kernel_rfl) (by rfl) hS (fun _ _ _ h => h) ?_ ?_; rotate_left; focus (intro w; go_simp; try with_reducible rfl))
  try simp only [Act.put, List.setIfInBounds_toArray, List.set_cons_zero, List.set_cons_succ]
  (refine wpH_pure 3 ?_ (oi := { dst := some 89, op := Op.fieldAddr 76 (Operand.tmp 88) 1, type := 0, pos := "knot.go:92", after := #[{ on := 2, ground := Ground.data }], guard := none }) rfl (by kernel_rfl) (by kernel_rfl) (by kernel_rfl) (by rfl) hS (fun _ _ _ h => h) ?_ ?_; rotate_left; focus (intro w; go_simp; try with_reducible rfl))
  try simp only [Act.put, List.setIfInBounds_toArray, List.set_cons_zero, List.set_cons_succ]
  refine wpH_load 4 (.string ⟨List.toArray (p0)⟩) (oi := { dst := some 90, op := Op.load 9 (Operand.tmp 89), type := 9, pos := "knot.go:92", after := #[{ on := 3, ground := Ground.data }], guard := none }) rfl (by kernel_rfl) (by kernel_rfl) (by kernel_rfl) (by rfl) hS (fun _ _ _ h => h) (fun w hb => (by have c := keepC hb d1; go_simp; try rfl)) ?_
  try simp only [Act.put, List.setIfInBounds_toArray, List.set_cons_zero, List.set_cons_succ]
  (refine wpH_pure 5 ?_ (oi := { dst := some 91, op := Op.move (Operand.tmp 0), type := 70, pos := "knot.go:92", after := #[], guard := none }) rfl (by kernel_rfl) (by kernel_rfl) (by kernel_rfl) (by rfl) hS (fun _ _ _ h => h) ?_ ?_; rotate_left; focus (intro w; go_simp; try with_reducible rfl))
  try simp only [Act.put, List.setIfInBounds_toArray, List.set_cons_zero, List.set_cons_succ]
  (refine wpH_pure 6 ?_ (oi := { dst := some 92, op := Op.nilCheck (Operand.tmp 91), type := 0, pos := "knot.go:92", after := #[{ on := 5, ground := Ground.data }], guard := none }) rfl (by kernel_rfl) (by kernel_rfl) (by kernel_rfl) (by rfl) hS (fun _ _ _ h => h) ?_ ?_; rotate_left; focus (intro w; go_simp; try with_reducible rfl))
  try simp only [Act.put, List.setIfInBounds_toArray, List.set_cons_zero, List.set_cons_succ]
  (refine wpH_pure 7 ?_ (oi := { dst := some 93, op := Op.fieldAddr 79 (Operand.tmp 92) 1, type := 0, pos := "knot.go:92", after := #[{ on := 6, ground := Ground.data }], guard := none }) rfl (by kernel_rfl) (by kernel_rfl) (by kernel_rfl) (by rfl) hS (fun _ _ _ h => h) ?_ ?_; rotate_left; focus (intro w; go_simp; try with_reducible rfl))
  try simp only [Act.put, List.setIfInBounds_toArray, List.set_cons_zero, List.set_cons_succ]
  (refine wpH_pure 8 ?_ (oi := { dst := some 94, op := Op.indexAddr 77 (Operand.tmp 93) (Operand.const (Value.int IntKind.i64 0)), type := 0, pos := "knot.go:92", after := #[{ on := 7, ground := Ground.data }], guard := none }) rfl (by kernel_rfl) (by kernel_rfl) (by kernel_rfl) (by rfl) hS (fun _ _ _ h => h) ?_ ?_; rotate_left; focus (intro w; go_simp; try with_reducible rfl))
  try simp only [Act.put, List.setIfInBounds_toArray, List.set_cons_zero, List.set_cons_succ]
  refine wpH_load 9 (ptV (ps 0)) (oi := { dst := some 95, op := Op.load 70 (Operand.tmp 94), type := 70, pos := "knot.go:92", after := #[{ on := 8, ground := Ground.data }], guard := none }) rfl (by kernel_rfl) (by kernel_rfl) (by kernel_rfl) (by rfl) hS (fun _ _ _ h => h) (fun w hb => (by have c := keepC hb d6; go_simp; try rfl)) ?_
  try simp only [Act.put, List.setIfInBounds_toArray, List.set_cons_zero, List.set_cons_succ]
  (refine wpH_pure 10 ?_ (oi := { dst := some 96, op := Op.move (Operand.tmp 1), type := 9, pos := "knot.go:92", after := #[], guard := none }) rfl (by kernel_rfl) (by kernel_rfl) (by kernel_rfl) (by rfl) hS (fun _ _ _ h => h) ?_ ?_; rotate_left; focus (intro w; go_simp; try with_reducible rfl))
  try simp only [Act.put, List.setIfInBounds_toArray, List.set_cons_zero, List.set_cons_succ]
  (refine wpH_pure 11 ?_ (oi := { dst := some 97, op := Op.move (Operand.tmp 7), type := 3, pos := "knot.go:92", after := #[], guard := none }) rfl (by kernel_rfl) (by kernel_rfl) (by kernel_rfl) (by rfl) hS (fun _ _ _ h => h) ?_ ?_; rotate_left; focus (intro w; go_simp; try with_reducible rfl))
  try simp only [Act.put, List.setIfInBounds_toArray, List.set_cons_zero, List.set_cons_succ]
  (refine wpH_pure 12 ?_ (oi := { dst := some 98, op := Op.slice 9 (Operand.tmp 96) (some (Operand.tmp 97)) none none, type := 9, pos := "knot.go:92", after := #[{ on := 10, ground := Ground.data }, { on := 11, ground := Ground.data }], guard := none }) rfl (by kernel_rfl) (by kernel_rfl) (by kernel_rfl) (by rfl) hS (fun _ _ _ h => h) ?_ ?_; rotate_left; focus (intro w; go_simp; try with_reducible rfl))
  try simp only [Act.put, List.setIfInBounds_toArray, List.set_cons_zero, List.set_cons_succ]
  (refine wpH_pure 13 ?_ (oi := { dst := some 99, op := Op.move (Operand.tmp 2), type := 9, pos := "knot.go:92", after := #[], guard := none }) rfl (by kernel_rfl) (by kernel_rfl) (by kernel_rfl) (by rfl) hS (fun _ _ _ h => h) ?_ ?_; rotate_left; focus (intro w; go_simp; try with_reducible rfl))
  try simp only [Act.put, List.setIfInBounds_toArray, List.set_cons_zero, List.set_cons_succ]
  refine wpH_call 14 (oi := { dst := some 100, op := Op.call { callee := Callee.value (Operand.func 63), args := #[Operand.tmp 95, Operand.tmp 98, Operand.tmp 99], argTypes := #[70, 9, 9] }, type := 70, pos := "knot.go:92", after := #[{ on := 9, ground := Ground.data }, { on := 12, ground := Ground.data }, { on := 13, ground := Ground.data }], guard := none }) rfl (by kernel_rfl) (by rfl) (HIH.out (ps 0) _ (HK.out.keep hb1.drew) (HK0.out.keep hb1.drew)) ?_ ?_
  · (go_simp; try rfl)
  rintro e w' ⟨b3, rfl, hb3, hK3⟩
  refine ⟨_, rfl, hS.trans (hb3.mono hS.size), ?_⟩
  replace hS := hS.trans (hb3.mono hS.size)
  have hb3' := hb1.drew.trans (hb3.mono hb1.drew.size)
  try simp only [Act.put, List.setIfInBounds_toArray, List.set_cons_zero, List.set_cons_succ]
  refine wpH_call 15 (oi := { dst := some 101, op := Op.call { callee := Callee.value (Operand.func 93), args := #[Operand.tmp 90, Operand.tmp 100], argTypes := #[9, 70] }, type := 70, pos := "knot.go:92", after := #[{ on := 4, ground := Ground.data }, { on := 14, ground := Ground.data }, { on := 14, ground := Ground.chain }], guard := none }) rfl (by kernel_rfl) (by rfl) (HJN.out _ (HK.out.keep hb3') b3 hK3) ?_ ?_
  · (go_simp; try rfl)
  rintro e w' ⟨b4, rfl, hb4, hK4⟩
  refine ⟨_, rfl, hS.trans (hb4.mono hS.size), ?_⟩
  replace hS := hS.trans (hb4.mono hS.size)
  try simp only [Act.put, List.setIfInBounds_toArray, List.set_cons_zero, List.set_cons_succ]
  (refine wpH_pure 16 ?_ (oi := { dst := some 6, op := Op.assign (Operand.tmp 101), type := 70, pos := "knot.go:92", after := #[{ on := 15, ground := Ground.data }, { on := 15, ground := Ground.chain }, { on := 0, ground := Ground.phase }, { on := 1, ground := Ground.phase }, { on := 2, ground := Ground.phase }, { on := 3, ground := Ground.phase }, { on := 4, ground := Ground.phase }, { on := 5, ground := Ground.phase }, { on := 6, ground := Ground.phase }, { on := 7, ground := Ground.phase }, { on := 8, ground := Ground.phase }, { on := 9, ground := Ground.phase }, { on := 10, ground := Ground.phase }, { on := 11, ground := Ground.phase }, { on := 12, ground := Ground.phase }, { on := 13, ground := Ground.phase }, { on := 14, ground := Ground.phase }, { on := 15, ground := Ground.phase }], guard := none }) rfl (by kernel_rfl) (by kernel_rfl) (by kernel_rfl) (by rfl) hS (fun _ _ _ h => h) ?_ ?_; rotate_left; focus (intro w; go_simp; try with_reducible rfl))
  try simp only [Act.put, List.setIfInBounds_toArray, List.set_cons_zero, List.set_cons_succ]
  refine wpAnyH_done (by kernel_rfl) ?_ _
  go_wp2_with fail
  go_ret
  exact ⟨b4, rfl, hb3'.trans (hb4.mono hb3'.size), hK4⟩

set_option maxRecDepth 100000 in
set_option maxHeartbeats 8000000 in
theorem put_brE (w0 : Bs) (kids : Nat → Tr) (b : Nat) (v : Bs) (w : World) (hk : KT w) (hT : KAt w (.br w0 kids) (some b)) :
    Calls Tryd.prog 63 #[.pointer (some ⟨b, 0, none⟩), .string ⟨List.toArray ([])⟩, .string ⟨List.toArray (v)⟩] w (KOut w.heap.size w (.br v kids)) := by
  obtain ⟨hne, ps, hps, ⟨c0, c1, c2, _, _, _, c6⟩, hB⟩ := hT.open
  simp only [kindT, pathT] at c0 c1
  have HCM := Lib.hid (fun W => ncommon_any [] [] (by simp) (by simp) W)
  have HBR := Lib.hid (fun W (h : KT W) hK => branch_any v kids ps W h hK)
  have HK := Lib.hid hk
  have HPS := Lib.hid hps
  have HB := Lib.hid hB
  clear hps hne hT hk c2 c6 hB
  go_enter Tryd.func63, Tryd.ntmps63
  go_wp2_with fail
  refine (HCM.out _).mono ?_
  rintro e w1 ⟨rfl, n1, rfl⟩
  have hb1 : Below w.heap.size w (w.drewN n1) := below_drewN (Below.refl _ _) _
  have hB1 := HB.out.keep hb1
  rw [show common [] [] = 0 from rfl]
  go_wp2_with (first
    | (refine wpList_knPtrs rfl (.tmp 44) rfl rfl hB1 ?_)
    | fail)
  refine (HBR.out _ (HK.out.keep hb1) (fun i hi => (HPS.out i hi).keep hb1)).mono ?_
  rintro e w2 ⟨b2, rfl, hb2, hK2⟩
  go_wp2_with fail
  go_ret
  exact ⟨b2, rfl, hb1.trans (hb2.mono hb1.size), hK2⟩

set_option maxRecDepth 100000 in
set_option maxHeartbeats 8000000 in
theorem put_br (w0 : Bs) (kids : Nat → Tr) (b : Nat) (a : UInt8) (r v : Bs) (ha : a.toNat < 16) (hr : r.length ≤ 900) (w : World) (hk : KT w) (hT : KAt w (.br w0 kids) (some b))
    (ih : ∀ (p : Option Nat) (w : World), KT w → KAt w (kids a.toNat) p → Calls Tryd.prog 63 #[ptV p, .string ⟨List.toArray (r)⟩, .string ⟨List.toArray (v)⟩] w (KOut w.heap.size w (putT (kids a.toNat) r v))) :
    Calls Tryd.prog 63 #[.pointer (some ⟨b, 0, none⟩), .string ⟨List.toArray (a :: r)⟩, .string ⟨List.toArray (v)⟩] w (KOut w.heap.size w (.br w0 (updT kids a.toNat (putT (kids a.toNat) r v)))) := by
  obtain ⟨hne, ps, hps, ⟨c0, c1, c2, _, _, _, c6⟩, hB⟩ := hT.open
  simp only [kindT, pathT, valT] at c0 c1 c2
  have HCM := Lib.hid (fun W => ncommon_any [] (a :: r) (by simp) (by simp; omega) W)
  have HIH := Lib.hid ih
  have HK := Lib.hid hk
  have HPS := Lib.hid hps
  have HB := Lib.hid hB
  have hbl := hB.lt
  have HC2 := Lib.hid c2
  have i1 : 0 ≤ (a.toNat : Int) ∧ (a.toNat : Int) < 16 := by omega
  have i2 : (1 : Int) ≤ (r.length : Int) + 1 := by omega
  clear hps hne hT hk c2 c6 hB ih
  generalize putT (kids a.toNat) r v = t2 at *
  go_enter Tryd.func63, Tryd.ntmps63
  go_wp2_with fail
  refine (HCM.out _).mono ?_
  rintro e w1 ⟨rfl, n1, rfl⟩
  have hb1 : Below w.heap.size w (w.drewN n1) := below_drewN (Below.refl _ _) _
  have hB1 := HB.out.keep hb1
  have hsz : (w.drewN n1).heap.size = w.heap.size := rfl
  rw [show common [] (a :: r) = 0 from rfl]
  go_wp2_with (first
    | (refine wpList_knPtrs rfl (.tmp 56) rfl rfl hB1 ?_)
    | (refine wpList_allocP rfl rfl ?_
       intro m w2 hm B2 hb2)
    | (refine wpList_rowStore row16p rfl rfl (.tmp 9) (.tmp 57) rfl rfl rfl (pk_len ps) (pk_one ps) (pk_len noP) B2 ?_
       intro w3 B3 m3)
    | fail)
  have hmw : w.heap.size ≤ m := hm
  have hb12 : Below w.heap.size w w2 := hb1.trans hb2
  have hs12 := hb12.size
  have hbw : Below w.heap.size w w3 := Below.mod hb12 m3 (by omega) (by simp; omega)
  have hT3 := kat_keep hbw HPS.out
  have HB3 := Lib.hid B3
  have HBW := Lib.hid hbw
  have HT3 := Lib.hid hT3
  have hbm : b < m := by omega
  clear hb1 hB1 hsz hb2 B2 m3 B3 hbw hT3 c0 c1 hb12 hs12 hm
  refine wpH_startM [m] (by kernel_rfl) (fun hS => ?_)
  (refine wpH_pure 0 ?_ (oi := { dst := some 58, op := Op.move (Operand.tmp 1), type := 9, pos := "knot.go:89", after := #[], guard := none }) rfl (by kernel_rfl) (by kernel_rfl) (by kernel_rfl) (by rfl) hS (fun _ _ _ h => h) ?_ ?_; rotate_left; focus (intro w; go_simp; try with_reducible rfl))
  try simp only [Act.put, List.setIfInBounds_toArray, List.set_cons_zero, List.set_cons_succ]
  (refine wpH_pure 1 ?_ (oi := { dst := some 59, op := Op.index 9 (Operand.tmp 58) (Operand.const (Value.int IntKind.i64 0)), type := 5, pos := "knot.go:89", after := #[{ on := 0, ground := Ground.data }], guard := none }) rfl (by kernel_rfl) (by kernel_rfl) (by kernel_rfl) (by rfl) hS (fun _ _ _ h => h) ?_ ?_; rotate_left; focus (intro w; go_simp; try with_reducible rfl))
  try simp only [Act.put, List.setIfInBounds_toArray, List.set_cons_zero, List.set_cons_succ]
  (refine wpH_pure 2 ?_ (oi := { dst := some 60, op := Op.move (Operand.tmp 1), type := 9, pos := "knot.go:89", after := #[], guard := none }) rfl (by kernel_rfl) (by kernel_rfl) (by kernel_rfl) (by rfl) hS (fun _ _ _ h => h) ?_ ?_; rotate_left; focus (intro w; go_simp; try with_reducible rfl))
  try simp only [Act.put, List.setIfInBounds_toArray, List.set_cons_zero, List.set_cons_succ]
  (refine wpH_pure 3 ?_ (oi := { dst := some 61, op := Op.index 9 (Operand.tmp 60) (Operand.const (Value.int IntKind.i64 0)), type := 5, pos := "knot.go:89", after := #[{ on := 2, ground := Ground.data }], guard := none }) rfl (by kernel_rfl) (by kernel_rfl) (by kernel_rfl) (by rfl) hS (fun _ _ _ h => h) ?_ ?_; rotate_left; focus (intro w; go_simp; try with_reducible rfl))
  try simp only [Act.put, List.setIfInBounds_toArray, List.set_cons_zero, List.set_cons_succ]
  (refine wpH_pure 4 ?_ (oi := { dst := some 62, op := Op.indexAddr 77 (Operand.tmp 9) (Operand.tmp 61), type := 0, pos := "knot.go:89", after := #[{ on := 3, ground := Ground.data }], guard := none }) rfl (by kernel_rfl) (by kernel_rfl) (by kernel_rfl) (by rfl) hS (fun _ _ _ h => h) ?_ ?_; rotate_left; focus (intro w; go_simp; try with_reducible rfl))
  try simp only [Act.put, List.setIfInBounds_toArray, List.set_cons_zero, List.set_cons_succ]
  (refine wpH_pure 6 ?_ (oi := { dst := some 64, op := Op.move (Operand.tmp 1), type := 9, pos := "knot.go:89", after := #[], guard := none }) rfl (by kernel_rfl) (by kernel_rfl) (by kernel_rfl) (by rfl) hS (fun _ _ _ h => h) ?_ ?_; rotate_left; focus (intro w; go_simp; try with_reducible rfl))
  try simp only [Act.put, List.setIfInBounds_toArray, List.set_cons_zero, List.set_cons_succ]
  (refine wpH_pure 7 ?_ (oi := { dst := some 65, op := Op.slice 9 (Operand.tmp 64) (some (Operand.const (Value.int IntKind.i64 1))) none none, type := 9, pos := "knot.go:89", after := #[{ on := 6, ground := Ground.data }], guard := none }) rfl (by kernel_rfl) (by kernel_rfl) (by kernel_rfl) (by rfl) hS (fun _ _ _ h => h) ?_ ?_; rotate_left; focus (intro w; go_simp; try with_reducible rfl))
  try simp only [Act.put, List.setIfInBounds_toArray, List.set_cons_zero, List.set_cons_succ]
  (refine wpH_pure 8 ?_ (oi := { dst := some 66, op := Op.move (Operand.tmp 2), type := 9, pos := "knot.go:89", after := #[], guard := none }) rfl (by kernel_rfl) (by kernel_rfl) (by kernel_rfl) (by rfl) hS (fun _ _ _ h => h) ?_ ?_; rotate_left; focus (intro w; go_simp; try with_reducible rfl))
  try simp only [Act.put, List.setIfInBounds_toArray, List.set_cons_zero, List.set_cons_succ]
  refine wpH_op 5 (oi := { dst := some 63, op := Op.load 70 (Operand.tmp 62), type := 70, pos := "knot.go:89", after := #[{ on := 4, ground := Ground.data }], guard := none }) rfl (by kernel_rfl) (by rfl) ?_
  refine wp_load1 70 (.tmp 62) rfl ⟨m, a.toNat, none⟩ rfl (ptV (ps a.toNat)) (load_ptr _ _ _ _ (pk_cell HB3.out.drew a.toNat ha)) ?_
  refine ⟨hS, ?_⟩
  try simp only [Act.put, List.setIfInBounds_toArray, List.set_cons_zero, List.set_cons_succ]
  refine wpH_call 9 (oi := { dst := some 67, op := Op.call { callee := Callee.value (Operand.func 63), args := #[Operand.tmp 63, Operand.tmp 65, Operand.tmp 66], argTypes := #[70, 9, 9] }, type := 70, pos := "knot.go:89", after := #[{ on := 5, ground := Ground.data }, { on := 7, ground := Ground.data }, { on := 8, ground := Ground.data }], guard := none }) rfl (by kernel_rfl) (by rfl) (HIH.out (ps a.toNat) _ (HK.out.keep HBW.out.drew) ((HT3.out a.toNat ha).keep (Below.refl _ _).drew)) ?_ ?_
  · (go_simp; try rfl)
  rintro e w' ⟨b8, rfl, hbx, hK8⟩
  refine ⟨_, rfl, hS.trans (Mod.of_below hbx), ?_⟩
  replace hS := hS.trans (Mod.of_below hbx)
  try simp only [Act.put, List.setIfInBounds_toArray, List.set_cons_zero, List.set_cons_succ]
  (refine wpH_pure 10 ?_ (oi := { dst := some 68, op := Op.indexAddr 77 (Operand.tmp 9) (Operand.tmp 59), type := 0, pos := "knot.go:89", after := #[{ on := 1, ground := Ground.data }, { on := 0, ground := Ground.phase }, { on := 1, ground := Ground.phase }, { on := 2, ground := Ground.phase }, { on := 3, ground := Ground.phase }, { on := 4, ground := Ground.phase }, { on := 5, ground := Ground.phase }, { on := 6, ground := Ground.phase }, { on := 7, ground := Ground.phase }, { on := 8, ground := Ground.phase }, { on := 9, ground := Ground.phase }], guard := none }) rfl (by kernel_rfl) (by kernel_rfl) (by kernel_rfl) (by rfl) hS (fun _ _ _ h => h) ?_ ?_; rotate_left; focus (intro w; go_simp; try with_reducible rfl))
  try simp only [Act.put, List.setIfInBounds_toArray, List.set_cons_zero, List.set_cons_succ]
  refine wpH_op 11 (oi := { dst := none, op := Op.store 70 (Operand.tmp 68) (Operand.tmp 67), type := 0, pos := "knot.go:89", after := #[{ on := 10, ground := Ground.data }, { on := 9, ground := Ground.data }, { on := 9, ground := Ground.chain }, { on := 0, ground := Ground.phase }, { on := 1, ground := Ground.phase }, { on := 2, ground := Ground.phase }, { on := 3, ground := Ground.phase }, { on := 4, ground := Ground.phase }, { on := 5, ground := Ground.phase }, { on := 6, ground := Ground.phase }, { on := 7, ground := Ground.phase }, { on := 8, ground := Ground.phase }, { on := 9, ground := Ground.phase }], guard := none }) rfl (by kernel_rfl) (by rfl) ?_
  refine wp_storeP (.tmp 68) (.tmp 67) rfl m a.toNat rfl (some ⟨b8, 0, none⟩) rfl _ (pk_cell (HB3.out.drew.keep hbx) a.toNat ha) ((HB3.out.drew.keep hbx).froz _) ?_
  refine ⟨hS.setCell (.inl (by simp)) _, ?_⟩
  try simp only [Act.put, List.setIfInBounds_toArray, List.set_cons_zero, List.set_cons_succ]
  refine wpAnyH_done (by kernel_rfl) ?_ _
  have B4 := HB3.out.drew.keep hbx
  have hT4 := kat_upd (kat_other B4 a.toNat (.pointer (some ⟨b8, 0, none⟩)) (kat_keep hbx (kat_keep (Below.refl _ _).drew HT3.out))) a.toNat (hK8.other B4 a.toNat (.pointer (some ⟨b8, 0, none⟩)))
  have B5 := B4.set a.toNat (ptV (some b8))
  rw [pk_set _ _ _ ha, ptV_some] at B5
  have hb5 : Below w.heap.size w _ := ((HBW.out.drew).trans (hbx.mono HBW.out.size)).setCell (p := ⟨m, a.toNat, none⟩) hmw (.pointer (some ⟨b8, 0, none⟩))
  clear hbx hK8 hS B4
  generalize World.setCell _ ⟨m, a.toNat, none⟩ (.pointer (some ⟨b8, 0, none⟩)) = w5 at *
  have HT5 := Lib.hid hT4
  clear hT4
  go_wp2_with fail
  refine wp_tail 6 (by kernel_rfl) (by kernel_rfl) ?_
  intro w6 hw6
  have B6 := B5.drew
  have hb6 := hb5.drew
  have HT6 := Lib.hid (kat_keep (Below.refl w5.heap.size w5).drew HT5.out)
  rw [← hw6] at B6 hb6 HT6
  have d2 := keepC hb6 HC2.out
  clear hw6 B5 hb5 HT5
  simp only [List.take_succ_cons, List.take_zero, List.drop_succ_cons, List.drop_zero]
  repeat (first
    | (refine wpStill_rowLoadAt row16p rfl (.tmp 9) rfl rfl (pk_len (updP ps a.toNat (some b8))) B6.range ?_)
    | still_step)
  refine wpStill_nil ?_
  go_wp2_with fail
  refine (branch_any w0 (updT kids a.toNat t2) _ w6 (HK.out.keep hb6) HT6.out).mono ?_
  rintro e w7 ⟨b7, rfl, hb7, hK7⟩
  go_wp2_with fail
  go_ret
  exact ⟨b7, rfl, hb6.trans (hb7.mono hb6.size), hK7⟩

theorem put_any (v : Bs) : ∀ (t : Tr) (n : Nat), n ≤ 400 → ∀ (q : Bs), q.length ≤ n → fit q = true → okT t n → ∀ (p : Option Nat) (w : World), KT w → KAt w t p →
    Calls Tryd.prog 63 #[ptV p, .string ⟨List.toArray (q)⟩, .string ⟨List.toArray (v)⟩] w (KOut w.heap.size w (putT t q v)) := by
  intro t
  induction t with
  | nil =>
    intro n hn q hq hf ho p w hk hT
    obtain rfl := hT.isNil
    have HLF := Lib.hid (leaf_any q v (by omega) w hk)
    clear hk hT
    show Calls Tryd.prog 63 #[.pointer none, .string ⟨List.toArray (q)⟩, .string ⟨List.toArray (v)⟩] w (KOut w.heap.size w (.leaf q v))
    go_enter Tryd.func63, Tryd.ntmps63
    go_wp2_with fail
    refine HLF.out.mono ?_
    rintro e w2 ⟨b2, rfl, hb2, hK2⟩
    go_wp2_with fail
    go_ret
    exact ⟨b2, rfl, hb2, hK2⟩
  | leaf p0 w0 =>
    intro n hn q hq hf ho p w hk hT
    obtain ⟨b, rfl⟩ := hT.isKnot (by simp)
    by_cases h : common p0 q = p0.length ∧ common p0 q = q.length
    · rw [show putT (.leaf p0 w0) q v = .leaf q v from by rw [putT, if_pos h]]
      exact put_leaf p0 w0 n hn b q v hq ho h.1 h.2 w hk hT
    · rw [show putT (.leaf p0 w0) q v = joinT (q.take (common p0 q)) (partedT (.leaf p0 w0) (common p0 q) (q.drop (common p0 q)) v) from by rw [putT, if_neg h]; rfl]
      exact put_parted (.leaf p0 w0) n hn b q v hq hf ho (.inl ⟨rfl, h⟩) w hk hT
  | ext p0 t1 ih =>
    intro n hn q hq hf ho p w hk hT
    obtain ⟨b, rfl⟩ := hT.isKnot (by simp)
    by_cases h : common p0 q = p0.length
    · rw [show putT (.ext p0 t1) q v = joinT p0 (putT t1 (q.drop p0.length) v) from by rw [putT, if_pos h, h]]
      exact put_ext p0 t1 n hn b q v hq hf ho h w hk hT (fun p' w' hk' hT' => ih (n - p0.length) (by omega) _ (by rw [List.length_drop]; omega) (fit_split q _ hf).2 ho.2.2.2 p' w' hk' hT')
    · rw [show putT (.ext p0 t1) q v = joinT (q.take (common p0 q)) (partedT (.ext p0 t1) (common p0 q) (q.drop (common p0 q)) v) from by rw [putT, if_neg h]; rfl]
      exact put_parted (.ext p0 t1) n hn b q v hq hf ho (.inr ⟨rfl, h⟩) w hk hT
  | br w0 kids ih =>
    intro n hn q hq hf ho p w hk hT
    obtain ⟨b, rfl⟩ := hT.isKnot (by simp)
    cases q with
    | nil => exact put_brE w0 kids b v w hk hT
    | cons a r =>
      have h1 := (fit_cons a r).1 hf
      simp only [List.length_cons] at hq
      have hoa : okT (kids a.toNat) (n - 1) := by
        rcases ho a.toNat with h2 | h2
        · rw [h2]; trivial
        · exact h2.2.2
      exact put_br w0 kids b a r v h1.1 (by omega) w hk hT (fun p' w' hk' hT' => ih a.toNat (n - 1) (by omega) r (by omega) h1.2 hoa p' w' hk' hT')
end Go.Proofs.YtdaihimdkgmboaaDoor

/- Lists of texts that are read, wherever they lie; held against one another; spoilt. -/
set_option linter.unusedSimpArgs false
set_option linter.unusedVariables false
namespace Go.Proofs.YtdaihimdkgmboaaDoor
open Go.RowKit Pl

/-- v reads as these texts. -/
def SS (w : World) (v : Value) (l : List Bs) : Prop :=
  ∃ a cap, v = .slice a l.length cap ∧ l.length ≤ cap ∧ cap ≤ maxLen ∧ (l ≠ [] → ∃ g off, a = some ⟨g, off, none⟩ ∧ g < w.heap.size ∧ SSrc w g off l)
theorem SS.nil (w : World) : SS w (.slice none 0 0) [] := ⟨none, 0, rfl, Nat.le_refl _, by unfold maxLen; omega, fun h => absurd rfl h⟩
theorem SS.of {w : World} {g off cap : Nat} {l : List Bs} (h1 : l.length ≤ cap) (h2 : cap ≤ maxLen) (h3 : g < w.heap.size) (h4 : SSrc w g off l) : SS w (.slice (some ⟨g, off, none⟩) l.length cap) l :=
  ⟨_, cap, rfl, h1, h2, fun _ => ⟨g, off, rfl, h3, h4⟩⟩
theorem SRow.ss {w : World} {base : Nat} {v : Value} {l : List Bs} (h : SRow w base v l) : SS w v l := by
  rcases h.cells with ⟨rfl, rfl⟩ | ⟨g, cap, rfl, h2, h3, h4, h5, h6, h7⟩
  · exact SS.nil w
  · exact SS.of h4 h5 h3 (fun i hi => by rw [Nat.zero_add]; exact h6 i hi)
theorem SS.keep {W w : World} {v : Value} {l : List Bs} (h : SS W v l) (hb : Below W.heap.size W w) : SS w v l := by
  obtain ⟨a, cap, h1, h2, h3, h4⟩ := h
  refine ⟨a, cap, h1, h2, h3, fun hl => ?_⟩
  obtain ⟨g, off, e, hg, hc⟩ := h4 hl
  exact ⟨g, off, e, Nat.lt_of_lt_of_le hg hb.size, fun i hi => (hb.cell (p := ⟨g, off + i, none⟩) hg).trans (hc i hi)⟩
theorem SS.form {w : World} {v : Value} {l : List Bs} (h : SS w v l) : ∃ a c, v = .slice a l.length c := by
  obtain ⟨a, cap, h1, _⟩ := h
  exact ⟨a, cap, h1⟩
theorem SS.small {w : World} {v : Value} {l : List Bs} (h : SS w v l) : l.length ≤ 9223372036854775807 := by
  obtain ⟨a, cap, h1, h2, h3, _⟩ := h
  unfold maxLen at h3; omega
theorem SRow.keep {W w : World} {b : Nat} {v : Value} {l : List Bs} (h : SRow W b v l) (hb : Below W.heap.size W w) : SRow w b v l := by
  refine h.kept (fun k hk => hb.block k ?_)
  rcases h.cells with ⟨rfl, _⟩ | ⟨g, cap, rfl, _, hg, _⟩
  · cases hk
  · cases hk; exact hg
/-- A place of it: the address reckoned, the text there. -/
theorem SS.at' {w : World} {a : Option Addr} {c : Nat} {l : List Bs} (h : SS w (.slice a l.length c) l) (i : Nat) (hi : i < l.length) :
    ∃ g off, a = some ⟨g, off, none⟩ ∧ g < w.heap.size ∧ w.cell? ⟨g, off + i, none⟩ = some (.string ⟨List.toArray (l.getD i [])⟩) := by
  obtain ⟨a', cap, h1, _, _, h5⟩ := h
  injection h1 with h1 _ _
  obtain ⟨g, off, e, hg, hc⟩ := h5 (by intro e; rw [e] at hi; simp at hi)
  exact ⟨g, off, h1.trans e, hg, hc i hi⟩
theorem SS.at {w : World} {a : Option Addr} {c : Nat} {l : List Bs} (h : SS w (.slice a l.length c) l) (i : Nat) (hi : i < l.length) :
    ∃ g off, a = some ⟨g, off, none⟩ ∧ w.cell? ⟨g, off + i, none⟩ = some (.string ⟨List.toArray (l.getD i [])⟩) := by
  obtain ⟨g, off, e, _, hc⟩ := h.at' i hi
  exact ⟨g, off, e, hc⟩

theorem SRow.mod {w w' : World} {b p : Nat} {v : Value} {l : List Bs} (h : SRow w b v l) (hm : Mod [p] w w') (hp : p < b) : SRow w' b v l := by
  refine h.kept (fun k hk => hm.block k ?_ ?_)
  · rcases h.cells with ⟨rfl, _⟩ | ⟨g, cap, rfl, _, hg, _⟩
    · cases hk
    · cases hk; exact hg
  · have := h.own k hk
    simp; omega
theorem SRow.drewN {w : World} {b : Nat} {v : Value} {l : List Bs} (h : SRow w b v l) (n : Nat) : SRow (w.drewN n) b v l := h
theorem SRow.low {w : World} {b c : Nat} {v : Value} {l : List Bs} (h : SRow w b v l) (hc : c ≤ b) : SRow w c v l := by
  refine ⟨h.1, h.2.imp id ?_⟩
  rintro ⟨g, cap, cur, hv, h1, h2⟩
  exact ⟨g, cap, cur, hv, Nat.le_trans hc h1, h2⟩
theorem Mod.grow {l : List Nat} {a w w' : World} (h : Mod l a w) (k : Below a.heap.size w w') : Mod l a w' :=
  ⟨k.os.trans h.os, k.tape.trans h.tape, k.output.trans h.output, Nat.le_trans h.size k.size, fun i hi hn => (k.block i hi).trans (h.block i hi hn)⟩

set_option maxRecDepth 100000 in
set_option maxHeartbeats 1000000 in
theorem sametexts_any (u v : Value) (l m : List Bs) (w : World) (hu : SS w u l) (hv : SS w v m) :
    Calls Tryd.prog 86 #[u, v] w fun e w' => e = .returned (.bool (sameL l m)) ∧ ∃ n, w' = w.drewN n := by
  obtain ⟨a, c, rfl⟩ := hu.form
  obtain ⟨b, d, rfl⟩ := hv.form
  have hls := hu.small
  generalize hr : sameL l m = r
  have HR := Lib.hid hr
  clear hr
  by_cases hl : l.length = m.length
  · have hl1 : ((l.length : Int) == (m.length : Int)) = true := by simp; omega
    have HL := Lib.hid hl
    clear hl
    go_enter Tryd.func86, Tryd.ntmps86
    go_wp2_with fail
    go_loopw [5, 6] (fun s5 s6 wr => ∃ (i : Nat) (q : Bool), i ≤ l.length ∧ s6 = .int .i64 i ∧ s5 = .bool q ∧ Hid ((q = true → l.take i = m.take i) ∧ (q = false → l ≠ m)) ∧ ∃ n, wr = w.drewN n) (fun _ s6 _ => l.length - (intOf s6).toNat)
    case atStart => exact ⟨0, true, by omega, rfl, rfl, Lib.hid ⟨fun _ => rfl, fun h => by cases h⟩, 0, rfl⟩
    case round =>
      obtain ⟨i, q, hi, rfl, rfl, HQ, nq, rfl⟩ := hrel
      cases q
      · have HZ : Hid (r = false) := Lib.hid (by rw [← HR.out]; simp [sameL, HQ.out.2 rfl])
        clear HQ
        go_wp2_with fail
        go_ret
        exact ⟨by rw [HZ.out]; rfl, nq, rfl⟩
      · by_cases hlt : i < l.length
        · have hlt' : (i : Int) < (l.length : Int) := by omega
          have hlm : i < m.length := by rw [← HL.out]; exact hlt
          have hlm' : (i : Int) < (m.length : Int) := by omega
          obtain ⟨g, off, rfl, c1⟩ := hu.at i hlt
          obtain ⟨g2, off2, rfl, c2⟩ := hv.at i hlm
          have HS : Hid (l.take (i + 1) = m.take (i + 1) ↔ l.getD i [] = m.getD i []) := Lib.hid (by
            rw [List.take_succ_eq_append_getElem hlt, List.take_succ_eq_append_getElem hlm, HQ.out.1 rfl, List.append_cancel_left_eq]
            simp [List.getD, List.getElem?_eq_getElem hlt, List.getElem?_eq_getElem hlm])
          have HD : Hid (l.getD i [] ≠ m.getD i [] → l ≠ m) := Lib.hid (fun h e => h (by rw [e]))
          generalize l.getD i [] = x at *
          generalize m.getD i [] = y at *
          have HU := Lib.hid hu
          have HV := Lib.hid hv
          clear hu hv
          go_wp2_with fail
          go_quiet (fail)
          go_wp2_with fail
          exact ⟨⟨i + 1, x == y, by omega, by go_num, rfl, Lib.hid ⟨fun h => HS.out.2 (by simpa using h), fun h => HD.out (by simpa using h)⟩, _, rfl⟩, by simp [intOf]; omega⟩
        · have hie : i = l.length := by omega
          have hd : decide ((i : Int) < (l.length : Int)) = false := by simp; omega
          have HZ : Hid (r = true) := Lib.hid (by
            have h := HQ.out.1 rfl
            rw [List.take_of_length_le (by omega), List.take_of_length_le (by rw [← HL.out]; omega)] at h
            rw [← HR.out]
            simp [sameL, h])
          clear HQ
          go_wp2_with fail
          go_ret
          exact ⟨by rw [HZ.out]; rfl, nq, rfl⟩
  · have hl1 : ((l.length : Int) == (m.length : Int)) = false := by simp; omega
    have HZ : Hid (r = false) := Lib.hid (by rw [← HR.out]; simp [sameL]; intro e; exact hl (by rw [e]))
    clear hl
    go_enter Tryd.func86, Tryd.ntmps86
    go_wp2_with fail
    go_loopw [5, 6] (fun s5 s6 wr => s6 = .int .i64 0 ∧ s5 = .bool false ∧ wr = w) (fun _ s6 _ => 0)
    case atStart => exact ⟨rfl, rfl, rfl⟩
    case round =>
      obtain ⟨rfl, rfl, rfl⟩ := hrel
      go_wp2_with fail
      go_ret
      exact ⟨by rw [HZ.out]; rfl, 0, rfl⟩
theorem sametexts_self (u v : Value) (l : List Bs) (w : World) (hu : SS w u l) (hv : SS w v l) :
    Calls Tryd.prog 86 #[u, v] w fun e w' => e = .returned (.bool true) ∧ ∃ n, w' = w.drewN n := by
  have h := sametexts_any u v l l w hu hv
  rw [show sameL l l = true from by simp [sameL]] at h
  exact h


end Go.Proofs.YtdaihimdkgmboaaDoor

/- Slices of items: read ones, and such as a call itself made. -/
set_option linter.unusedSimpArgs false
set_option linter.unusedVariables false
namespace Go.Proofs.YtdaihimdkgmboaaDoor
open Go.RowKit Pl

theorem Below.nm {B : Nat} {a w : World} (_ : Below B a w) : ∃ w' : World, w' = w := ⟨w, rfl⟩
/-- The cells of a list of items. -/
def ISrc (w : World) (g o : Nat) (l : List It) : Prop := ∀ i, i < l.length → w.cell? ⟨g, o + i * 2, none⟩ = some (.string ⟨List.toArray ((l.getD i ([], [])).1)⟩) ∧ w.cell? ⟨g, o + i * 2 + 1, none⟩ = some (.string ⟨List.toArray ((l.getD i ([], [])).2)⟩)
/-- v reads as these items. -/
def IL (w : World) (v : Value) (l : List It) : Prop :=
  ∃ a cap, v = .slice a l.length cap ∧ l.length ≤ cap ∧ cap ≤ maxLen ∧ (l ≠ [] → ∃ g off, a = some ⟨g, off, none⟩ ∧ g < w.heap.size ∧ ISrc w g off l)
theorem IL.keep {W w : World} {v : Value} {l : List It} (h : IL W v l) (hb : Below W.heap.size W w) : IL w v l := by
  obtain ⟨a, cap, h1, h2, h3, h4⟩ := h
  refine ⟨a, cap, h1, h2, h3, fun hl => ?_⟩
  obtain ⟨g, off, e, hg, hc⟩ := h4 hl
  exact ⟨g, off, e, Nat.lt_of_lt_of_le hg hb.size, fun i hi => ⟨(hb.cell (p := ⟨g, off + i * 2, none⟩) hg).trans (hc i hi).1, (hb.cell (p := ⟨g, off + i * 2 + 1, none⟩) hg).trans (hc i hi).2⟩⟩
theorem IL.form {w : World} {v : Value} {l : List It} (h : IL w v l) : ∃ a c, v = .slice a l.length c := by
  obtain ⟨a, cap, h1, _⟩ := h
  exact ⟨a, cap, h1⟩
theorem IL.small {w : World} {v : Value} {l : List It} (h : IL w v l) : l.length ≤ 9223372036854775807 := by
  obtain ⟨a, cap, h1, h2, h3, _⟩ := h
  unfold maxLen at h3; omega
theorem IL.at {w : World} {a : Option Addr} {c : Nat} {l : List It} (h : IL w (.slice a l.length c) l) (i : Nat) (hi : i < l.length) :
    ∃ g off, a = some ⟨g, off, none⟩ ∧ g < w.heap.size ∧ w.cell? ⟨g, off + i * 2, none⟩ = some (.string ⟨List.toArray ((l.getD i ([], [])).1)⟩) ∧ w.cell? ⟨g, off + i * 2 + 1, none⟩ = some (.string ⟨List.toArray ((l.getD i ([], [])).2)⟩) := by
  obtain ⟨a', cap, h1, _, _, h5⟩ := h
  injection h1 with h1 _ _
  obtain ⟨g, off, e, hg, hc⟩ := h5 (by intro e; rw [e] at hi; simp at hi)
  exact ⟨g, off, h1.trans e, hg, (hc i hi).1, (hc i hi).2⟩

namespace Pl
theorem dropI (l : List It) (i : Nat) (hi : i < l.length) : l.drop i = l.getD i ([], []) :: l.drop (i + 1) := by
  rw [List.drop_eq_getElem_cons hi, List.getD_eq_getElem?_getD, List.getElem?_eq_getElem hi]
  rfl
theorem takeI (l : List It) (i : Nat) (hi : i < l.length) : l.take (i + 1) = l.take i ++ [l.getD i ([], [])] := by
  rw [List.take_add_one, List.getElem?_eq_getElem hi, List.getD_eq_getElem?_getD, List.getElem?_eq_getElem hi]
  rfl
end Pl

theorem infoIt : (Tryd.prog.info? 44).map (fun i => (i.zero, i.size, i.bytes)) = some (some (.agg #[.string ⟨#[]⟩, .string ⟨#[]⟩]), 2, 32) := by kernel_rfl

def iv : List It → List Value
  | [] => []
  | x :: r => .string ⟨List.toArray (x.1)⟩ :: .string ⟨List.toArray (x.2)⟩ :: iv r
theorem iv_len (l : List It) : (iv l).length = l.length * 2 := by
  induction l with
  | nil => rfl
  | cons x r ih => simp only [iv, List.length_cons, ih]; omega
theorem iv_app (a b : List It) : iv (a ++ b) = iv a ++ iv b := by
  induction a with
  | nil => rfl
  | cons x r ih => simp [iv, ih]
theorem iv_at : ∀ (l : List It) (i : Nat), i < l.length → (iv l)[i * 2]? = some (.string ⟨List.toArray ((l.getD i ([], [])).1)⟩) ∧ (iv l)[i * 2 + 1]? = some (.string ⟨List.toArray ((l.getD i ([], [])).2)⟩)
  | x :: r, 0, _ => ⟨rfl, rfl⟩
  | x :: r, i + 1, hi => by
    have h := iv_at r i (by simpa using hi)
    rw [show (i + 1) * 2 = i * 2 + 1 + 1 from by omega]
    simpa [iv] using h
theorem ione : ∀ (l : List It), ∀ u ∈ iv l, u.oneCell' = true
  | [], u, h => by simp [iv] at h
  | x :: r, u, h => by
    simp only [iv, List.mem_cons] at h
    rcases h with rfl | rfl | h
    · rfl
    · rfl
    · exact ione r u h

/-- v is nil, or a slice of a block from base on, with these items. -/
def IRow (w : World) (base : Nat) (v : Value) (l : List It) : Prop := w.ownsRow base 44 2 v l.length (iv l)
theorem IRow.nil (w : World) (base : Nat) : IRow w base (.slice none 0 0) [] := ⟨rfl, .inl ⟨rfl, rfl⟩⟩
theorem IRow.cells {w : World} {base : Nat} {v : Value} {l : List It} (h : IRow w base v l) :
    (v = .slice none 0 0 ∧ l = []) ∨ ∃ g cap, v = .slice (some ⟨g, 0, none⟩) l.length cap ∧ base ≤ g ∧ g < w.heap.size ∧ l.length ≤ cap ∧ cap ≤ maxLen ∧ ISrc w g 0 l ∧ ∀ o, w.frozen? ⟨g, o, none⟩ = false := by
  rcases h.2 with ⟨h1, h2⟩ | ⟨g, cap, cur, hv, hb, hg, hn, hm, hc, ht⟩
  · exact .inl ⟨h1, List.length_eq_zero_iff.1 h2⟩
  · refine .inr ⟨g, cap, hv, hb, ?_, hn, hm, fun i hi => ?_, fun o => ?_⟩
    · rcases Nat.lt_or_ge g w.heap.size with hlt | hge
      · exact hlt
      · rw [Array.getElem?_eq_none hge] at hg; cases hg
    · have h1 : ∀ j, j < l.length * 2 → w.cell? ⟨g, 0 + j, none⟩ = (iv l)[j]? := by
        intro j hj
        rw [← ht, List.getElem?_take, if_pos hj]
        simp [World.cell?, hg]
      obtain ⟨h2, h3⟩ := iv_at l i hi
      exact ⟨(h1 (i * 2) (by omega)).trans h2, (h1 (i * 2 + 1) (by omega)).trans h3⟩
    · simp [World.frozen?, hg]
theorem IRow.form {w : World} {base : Nat} {v : Value} {l : List It} (h : IRow w base v l) : ∃ (a : Option Addr) (cap : Nat), v = .slice a l.length cap := by
  rcases h.cells with ⟨rfl, rfl⟩ | ⟨g, cap, rfl, _⟩
  · exact ⟨none, 0, rfl⟩
  · exact ⟨_, cap, rfl⟩
theorem IRow.own {w : World} {base : Nat} {v : Value} {l : List It} (h : IRow w base v l) : ∀ k, v.ownBlock = some k → base ≤ k := by
  intro k hk
  rcases h.cells with ⟨rfl, _⟩ | ⟨g, cap, rfl, hb, _⟩
  · cases hk
  · cases hk; exact hb
theorem IRow.il {w : World} {base : Nat} {v : Value} {l : List It} (h : IRow w base v l) : IL w v l := by
  rcases h.cells with ⟨rfl, rfl⟩ | ⟨g, cap, h1, h2, h3, h4, h5, h6, h7⟩
  · exact ⟨none, 0, rfl, Nat.le_refl _, by unfold maxLen; omega, fun h => absurd rfl h⟩
  · exact ⟨_, cap, h1, h4, h5, fun _ => ⟨g, 0, rfl, h3, h6⟩⟩
theorem IRow.kept {w w' : World} {base : Nat} {v : Value} {l : List It} (h : IRow w base v l) (hb : ∀ k, v.ownBlock = some k → w'.heap[k]? = w.heap[k]?) : IRow w' base v l := by
  refine ⟨h.1, h.2.imp id ?_⟩
  rintro ⟨g, cap, cur, hv, h1, h2, h3⟩
  subst hv
  exact ⟨g, cap, cur, rfl, h1, (hb g rfl).trans h2, h3⟩
theorem IRow.keep {W w : World} {b : Nat} {v : Value} {l : List It} (h : IRow W b v l) (hb : Below W.heap.size W w) : IRow w b v l := by
  refine h.kept (fun k hk => hb.block k ?_)
  rcases h.cells with ⟨rfl, _⟩ | ⟨g, cap, rfl, _, hg, _⟩
  · cases hk
  · cases hk; exact hg

theorem isrc1 (w : World) (n p : Bs) (t : TypeId) : ISrc (w.alloc (.cells #[.string ⟨List.toArray (n)⟩, .string ⟨List.toArray (p)⟩] t)) w.heap.size 0 [(n, p)] := by
  intro i hi
  have : i = 0 := by simp at hi; omega
  subst this
  exact ⟨by simp, by simp⟩
theorem isrc_news {w : World} {g o : Nat} {l : List It} (h : ISrc w g o l) : ∀ j u, (iv l)[j]? = some u → w.cell? ((⟨g, o, none⟩ : Addr).add j) = some u := by
  intro j u hj
  have hjl : j < l.length * 2 := by
    rcases Nat.lt_or_ge j (l.length * 2) with hlt | hge
    · exact hlt
    · rw [List.getElem?_eq_none (by rw [iv_len]; exact hge)] at hj; cases hj
  have hadd : (⟨g, o, none⟩ : Addr).add j = ⟨g, o + j, none⟩ := by unfold Addr.add; split <;> simp_all
  rw [hadd]
  obtain ⟨i, hi | hi⟩ : ∃ i, j = i * 2 ∨ j = i * 2 + 1 := ⟨j / 2, by omega⟩
  · subst hi
    exact (h i (by omega)).1.trans (((iv_at l i (by omega)).1).symm.trans hj)
  · subst hi
    have := (h i (by omega)).2
    rw [Nat.add_assoc] at this
    exact this.trans (((iv_at l i (by omega)).2).symm.trans hj)

section
variable {ops : Array Oper} {o : Oper} {a : Act} {w : World} {Q : Exit → Act → World → Prop}

theorem wp_appI {K : Act → World → Prop} (s x : Operand)
    (ho : o.op = .call { callee := .builtin .append, args := #[s, x], argTypes := #[25, 25] })
    (base : Nat) (v : Value) (l : List It) (hs : a.eval s = v) (hown : IRow w base v l)
    (g off m c : Nat) (news : List It) (hx : a.eval x = .slice (some ⟨g, off, none⟩) m c) (hm : news.length = m) (hsrc : ISrc w g off news)
    (hlen : l.length + m ≤ 1099511627000) (hbase : base ≤ w.heap.size)
    (h : ∀ v' w', IRow w' base v' (l ++ news) → Below base w w' → K (a.put o.dst v') w') : o.wp Tryd.prog a w K Q := by
  obtain ⟨i0, hi, hz0, hz1, hz2⟩ := info_parts infoIt
  refine wp_append_own w s x 25 ho base 44 i0 (.agg #[.string ⟨#[]⟩, .string ⟨#[]⟩]) 2 32 Tryd.underlying25 hi hz0 hz1 hz2 rfl (by decide) v l.length (iv l) hs hown ⟨g, off, none⟩ m c (iv news) hx (by rw [iv_len, hm]) (isrc_news hsrc) (ione news)
    (by unfold maxLen; omega) (by omega) hbase (fun v' w' h2 h3 _ => h v' w' ?_ (grown_below h3 hbase hown.own))
  unfold IRow
  rw [List.length_append, hm, iv_app]
  exact h2
theorem step_appI {K : Act → World → Prop} {E : Prop} (hgd : o.guard = none) (s x : Operand)
    (ho : o.op = .call { callee := .builtin .append, args := #[s, x], argTypes := #[25, 25] })
    (base : Nat) (v : Value) (l : List It) (hs : a.eval s = v) (hown : IRow w base v l)
    (g off m c : Nat) (news : List It) (hx : a.eval x = .slice (some ⟨g, off, none⟩) m c) (hm : news.length = m) (hsrc : ISrc w g off news)
    (hlen : l.length + m ≤ 1099511627000) (hbase : base ≤ w.heap.size)
    (h : ∀ v' w', IRow w' base v' (l ++ news) → Below base w w' → K (a.put o.dst v') w') :
    if Region.wanted o (yielded ops a.tmps) = true then Oper.wp Tryd.prog o a w K Q else E := by
  have hw : Region.wanted o (yielded ops a.tmps) = true := by simp [Region.wanted, hgd]
  rw [if_pos hw]
  exact wp_appI s x ho base v l hs hown g off m c news hx hm hsrc hlen hbase h
theorem wpList_appI {rest : List Oper} (hgd : o.guard = none) (s x : Operand)
    (ho : o.op = .call { callee := .builtin .append, args := #[s, x], argTypes := #[25, 25] })
    (base : Nat) (v : Value) (l : List It) (hs : a.eval s = v) (hown : IRow w base v l)
    (g off m c : Nat) (news : List It) (hx : a.eval x = .slice (some ⟨g, off, none⟩) m c) (hm : news.length = m) (hsrc : ISrc w g off news)
    (hlen : l.length + m ≤ 1099511627000) (hbase : base ≤ w.heap.size)
    (h : ∀ v' w', IRow w' base v' (l ++ news) → Below base w w' → wpList Tryd.prog ops Q rest (a.put o.dst v') w') : wpList Tryd.prog ops Q (o :: rest) a w :=
  wpList_plain hgd fun _ hK => wp_appI s x ho base v l hs hown g off m c news hx hm hsrc hlen hbase fun v' w' h2 h3 => hK _ _ (h v' w' h2 h3)
end

end Go.Proofs.YtdaihimdkgmboaaDoor

/- Walks of layer 10: all items, in order. -/
set_option linter.unusedSimpArgs false
set_option linter.unusedVariables false
namespace Go.Proofs.YtdaihimdkgmboaaDoor
open Go.RowKit Pl

/-! ### what is told -/
def itemsT (place : Bs) (t : Tr) : List It := (rp t).map fun x => (keyP (place ++ x.1), x.2)
def ownI (place : Bs) (t : Tr) : List It := if valT t = [] then [] else [(keyP (place ++ pathT t), valT t)]
def kidI (place : Bs) (f : Nat → Tr) (k : Nat) : List It := (List.range k).flatMap fun i => itemsT (place ++ [UInt8.ofNat i]) (f i)
theorem kidI_succ (place : Bs) (f : Nat → Tr) (k : Nat) : kidI place f (k + 1) = kidI place f k ++ itemsT (place ++ [UInt8.ofNat k]) (f k) := by
  simp [kidI, List.range_succ]
theorem kidI_no (place : Bs) : ∀ k, kidI place noT k = []
  | 0 => rfl
  | k + 1 => by rw [kidI_succ, kidI_no place k]; rfl
theorem items_ext (place p : Bs) (t : Tr) : itemsT place (.ext p t) = itemsT (place ++ p) t := by
  simp [itemsT, rp, List.map_map, Function.comp_def]
theorem items_on (place : Bs) (t : Tr) (h : t ≠ .nil) (hk : kindT t ≠ 2) : itemsT place t = ownI place t ++ kidI place (kidsOf t) 16 := by
  cases t with
  | nil => exact absurd rfl h
  | ext p t => simp [kindT] at hk
  | leaf p v =>
    rw [show kidsOf (.leaf p v) = noT from rfl, kidI_no, List.append_nil]
    simp only [itemsT, rp, ownI, valT, pathT]
    by_cases hv : v = [] <;> simp [hv]
  | br v kids =>
    simp only [itemsT, rp, ownI, valT, pathT, kidsOf, kidI, List.map_append, List.map_flatMap, List.map_map, Function.comp_def]
    congr 1
    · by_cases hv : v = [] <;> simp [hv]
    · simp
theorem items_len (place : Bs) (t : Tr) : (itemsT place t).length = (rp t).length := by simp [itemsT]
theorem own_len (place : Bs) (t : Tr) : (ownI place t).length ≤ 1 := by unfold ownI; split <;> simp
theorem kidI_len (place : Bs) (f : Nat → Tr) : ∀ k, (kidI place f k).length = cntT f k
  | 0 => rfl
  | k + 1 => by rw [kidI_succ, List.length_append, kidI_len place f k, items_len, cntT]
theorem cntT_le (f : Nat → Tr) (k n : Nat) (h : k ≤ n) : cntT f k ≤ cntT f n := by
  induction n with
  | zero => have : k = 0 := by omega
            subst this; exact Nat.le_refl _
  | succ n ih =>
    rcases Nat.lt_or_ge k (n + 1) with h1 | h1
    · have := ih (by omega)
      rw [cntT]; omega
    · have : k = n + 1 := by omega
      subst this; exact Nat.le_refl _

/-- What a list that grows is like. -/
structure Out (w0 : World) (w : World) (l : List It) : Prop where
  below : Below w0.heap.size w0 w
  row : ∃ v, w.cell? ⟨w0.heap.size, 0, none⟩ = some v ∧ IRow w (w0.heap.size + 1) v l
  froz : w.frozen? ⟨w0.heap.size, 0, none⟩ = false
  lt : w0.heap.size < w.heap.size
theorem Out.keep {w0 W w : World} {l : List It} (h : Out w0 W l) (hb : Below W.heap.size W w) : Out w0 w l := by
  obtain ⟨v, h1, h2⟩ := h.row
  exact ⟨h.below.trans (hb.mono (Nat.le_of_lt h.lt)), ⟨v, keepC hb h1, h2.keep hb⟩, keepF hb h.lt h.froz, Nat.lt_of_lt_of_le h.lt hb.size⟩
theorem load_sl (w : World) (ad : Addr) (a : Option Addr) (n c : Nat) (h : w.cell? ad = some (.slice a n c)) : (loadVar 25 ad).run Tryd.prog w = .ok (.slice a n c) w := by
  go_simp
theorem run_storeSl (w : World) (b o : Nat) (a : Option Addr) (n c : Nat) (u : Value) (hc : w.cell? ⟨b, o, none⟩ = some u) (hf : w.frozen? ⟨b, o, none⟩ = false) :
    (Instr.storeAt 25 (.pointer (some ⟨b, o, none⟩)) (.slice a n c)).run Tryd.prog w = .ok () (w.setCell ⟨b, o, none⟩ (.slice a n c)) := by
  go_simp
theorem wp_storeSl {o : Oper} {a : Act} {w : World} {K : Act → World → Prop} {Q : Exit → Act → World → Prop} (x y : Operand) (ho : o.op = .store 25 x y) (b i : Nat) (hx : a.eval x = .pointer (some ⟨b, i, none⟩)) (q : Option Addr) (n c : Nat) (hy : a.eval y = .slice q n c)
    (u : Value) (hc : w.cell? ⟨b, i, none⟩ = some u) (hf : w.frozen? ⟨b, i, none⟩ = false) (h : K (a.put o.dst undef) (w.setCell ⟨b, i, none⟩ (.slice q n c))) : o.wp Tryd.prog a w K Q := by
  unfold Oper.wp execOp
  simp only [ho, hx, hy, Sem.run_bind, Sem.run_pure, Result.andThen_ok, run_storeSl w b i q n c u hc hf]
  exact h
theorem isrc_blk {w : World} {m : Nat} {k v : Bs} {t : TypeId} (h : w.heap[m]? = some (.cells #[.string ⟨List.toArray (k)⟩, .string ⟨List.toArray (v)⟩] t)) : ISrc w m 0 [(k, v)] := by
  intro i hi
  have : i = 0 := by simp at hi; omega
  subst this
  exact ⟨by simp [World.cell?, h], by simp [World.cell?, h]⟩

/-- The post of a step. -/
def OutP (w0 w : World) (l : List It) (r : Value) (e : Ending) (w' : World) : Prop := e = .returned r ∧ Below w0.heap.size w w' ∧ Out w0 w' l

set_option maxRecDepth 100000 in
set_option maxHeartbeats 8000000 in
theorem visit_any (w0 : World) (t : Tr) (b : Nat) (hT : KAt w0 t (some b)) (place : Bs) (l : List It) (hp : place.length + (pathT t).length ≤ 100000) (hl : l.length ≤ 1000000) (w : World) (hO : Out w0 w l) :
    Calls Tryd.prog 34 #[.string ⟨List.toArray (place)⟩, .pointer (some ⟨b, 0, none⟩), .pointer (some ⟨w0.heap.size, 0, none⟩)] w (OutP w0 w (l ++ ownI place t) (.bool true)) := by
  obtain ⟨hne, ps, hps, ⟨c0, c1, c2, _, _, _, c6⟩, hB⟩ := hT.open
  have hb0 := hO.below
  have hbl := hB.lt
  replace c1 := keepC hb0 c1
  replace c2 := keepC hb0 c2
  clear hps hB c0 c6 hne hT
  by_cases hv : valT t = []
  · rw [show ownI place t = [] from by simp [ownI, hv], List.append_nil]
    rw [hv] at c2
    clear hv
    go_enter Tryd.func34, Tryd.ntmps34
    go_wp2_with fail
    go_ret
    exact ⟨rfl, Below.refl _ _, hO⟩
  · rw [show ownI place t = [(keyP (place ++ pathT t), valT t)] from by simp [ownI, hv]]
    have hv1 : (valT t).isEmpty = false := by simpa using hv
    have HKY := Lib.hid (nkey_any (place ++ pathT t) (by simp; omega))
    clear hv
    generalize valT t = vt at *
    generalize pathT t = pt at *
    generalize keyP (place ++ pt) = ky at *
    have HO := Lib.hid hO
    clear hO
    go_enter Tryd.func34, Tryd.ntmps34
    go_wp2_with fail
    refine (HKY.out _).mono ?_
    rintro e w1 ⟨cc, rfl, hb1⟩
    have hO1 := HO.out.keep hb1
    have d2 := keepC hb1 c2
    have hs1 := hb1.size
    have hw1 : Below w0.heap.size w w1 := hb1.mono (Nat.le_of_lt HO.out.lt)
    obtain ⟨v, e1, r1⟩ := hO1.row
    obtain ⟨va, vc, rfl⟩ := r1.form
    have f1 := hO1.froz
    have HO1 := Lib.hid hO1
    clear hb1 hO1 c1 c2
    have hcell0 : w1.drew.cell? ⟨w0.heap.size, 0, none⟩ = some (.slice va l.length vc) := e1
    have hrow0 : IRow w1.drew (w0.heap.size + 1) (.slice va l.length vc) l := r1.keep (Below.refl _ _).drew
    have hfz0 : w1.drew.frozen? ⟨w0.heap.size, 0, none⟩ = false := f1
    have HC0 := Lib.hid hcell0
    have HR0 := Lib.hid hrow0
    have HF0 := Lib.hid hfz0
    have HD2 := Lib.hid d2
    clear e1 r1 f1 hcell0 hrow0 hfz0 d2
    go_wp2_with fail
    refine wpH_startB (w0.heap.size) (by kernel_rfl) (fun hS => ?_)
    have hcell := HC0
    have hrow := HR0
    have hfz := HF0
    have hlo : w0.heap.size < w1.drew.heap.size := HO1.out.lt
    (refine wpH_pure 1 ?_ (oi := { dst := some 26, op := Op.move (Operand.tmp 6), type := 9, pos := "trie.go:87", after := #[], guard := none }) rfl (by kernel_rfl) (by kernel_rfl) (by kernel_rfl) (by rfl) hS (fun _ _ _ h => h) ?_ ?_; rotate_left; focus (intro w; go_simp; try with_reducible rfl))
    try simp only [Act.put, List.setIfInBounds_toArray, List.set_cons_zero, List.set_cons_succ]
    (refine wpH_pure 2 ?_ (oi := { dst := some 27, op := Op.move (Operand.tmp 1), type := 70, pos := "trie.go:87", after := #[], guard := none }) rfl (by kernel_rfl) (by kernel_rfl) (by kernel_rfl) (by rfl) hS (fun _ _ _ h => h) ?_ ?_; rotate_left; focus (intro w; go_simp; try with_reducible rfl))
    try simp only [Act.put, List.setIfInBounds_toArray, List.set_cons_zero, List.set_cons_succ]
    (refine wpH_pure 3 ?_ (oi := { dst := some 28, op := Op.nilCheck (Operand.tmp 27), type := 0, pos := "trie.go:87", after := #[{ on := 2, ground := Ground.data }], guard := none }) rfl (by kernel_rfl) (by kernel_rfl) (by kernel_rfl) (by rfl) hS (fun _ _ _ h => h) ?_ ?_; rotate_left; focus (intro w; go_simp; try with_reducible rfl))
    try simp only [Act.put, List.setIfInBounds_toArray, List.set_cons_zero, List.set_cons_succ]
    (refine wpH_pure 4 ?_ (oi := { dst := some 29, op := Op.fieldAddr 79 (Operand.tmp 28) 0, type := 0, pos := "trie.go:87", after := #[{ on := 3, ground := Ground.data }], guard := none }) rfl (by kernel_rfl) (by kernel_rfl) (by kernel_rfl) (by rfl) hS (fun _ _ _ h => h) ?_ ?_; rotate_left; focus (intro w; go_simp; try with_reducible rfl))
    try simp only [Act.put, List.setIfInBounds_toArray, List.set_cons_zero, List.set_cons_succ]
    (refine wpH_pure 5 ?_ (oi := { dst := some 30, op := Op.fieldAddr 76 (Operand.tmp 29) 2, type := 0, pos := "trie.go:87", after := #[{ on := 4, ground := Ground.data }], guard := none }) rfl (by kernel_rfl) (by kernel_rfl) (by kernel_rfl) (by rfl) hS (fun _ _ _ h => h) ?_ ?_; rotate_left; focus (intro w; go_simp; try with_reducible rfl))
    try simp only [Act.put, List.setIfInBounds_toArray, List.set_cons_zero, List.set_cons_succ]
    refine wpH_load 6 (.string ⟨List.toArray (vt)⟩) (oi := { dst := some 31, op := Op.load 9 (Operand.tmp 30), type := 9, pos := "trie.go:87", after := #[{ on := 5, ground := Ground.data }], guard := none }) rfl (by kernel_rfl) (by kernel_rfl) (by kernel_rfl) (by rfl) hS (fun _ _ _ h => h) (fun w hb => (by have c := (hb.cell (p := ⟨b, 2, none⟩) hbl).trans HD2.out; go_simp; try rfl)) ?_
    try simp only [Act.put, List.setIfInBounds_toArray, List.set_cons_zero, List.set_cons_succ]
    (refine wpH_pure 7 ?_ (oi := { dst := some 32, op := Op.build 44 #[(0, Operand.tmp 26), (1, Operand.tmp 31)], type := 44, pos := "trie.go:87", after := #[{ on := 1, ground := Ground.data }, { on := 6, ground := Ground.data }], guard := none }) rfl (by kernel_rfl) (by kernel_rfl) (by kernel_rfl) (by rfl) hS (fun _ _ _ h => h) ?_ ?_; rotate_left; focus (intro w; go_simp; try with_reducible rfl))
    try simp only [Act.put, List.setIfInBounds_toArray, List.set_cons_zero, List.set_cons_succ]
    refine wpAnyH_all (rs := [0, 8]) (by kernel_rfl) (by simp) (fun jj hjj => ?_)
    simp only [List.mem_cons, List.not_mem_nil, or_false] at hjj
    rcases hjj with rfl | rfl
    refine wpO_op (oi := { dst := some 25, op := Op.load 25 (Operand.tmp 2), type := 25, pos := "trie.go:87", after := #[], guard := none }) rfl (by rfl) ?_
    refine wp_load1 25 (.tmp 2) rfl ⟨w0.heap.size, 0, none⟩ rfl (.slice va l.length vc) (load_sl _ _ _ _ _ hcell.out) ?_
    refine ⟨hS, ?_⟩
    try simp only [Act.put, List.setIfInBounds_toArray, List.set_cons_zero, List.set_cons_succ]
    refine wpH_op 8 (oi := { dst := some 33, op := Op.buildSlice 25 1 #[(0, Operand.tmp 32)], type := 25, pos := "trie.go:87", after := #[{ on := 7, ground := Ground.data }], guard := none }) rfl (by kernel_rfl) (by rfl) ?_
    refine wp_newK 44 #[.string ⟨List.toArray (ky)⟩, .string ⟨List.toArray (vt)⟩] (fun m => .slice (some ⟨m, 0, none⟩) 1 1) (fun w => by go_simp; try rfl) ?_
    intro m wk hm hh hmk hbk
    replace hS := hS.trans (hbk.mono (Nat.le_of_lt hlo))
    refine ⟨hS, ?_⟩
    replace hcell := Lib.hid (keepC hbk hcell.out)
    replace hrow := Lib.hid (hrow.out.keep hbk)
    replace hfz := Lib.hid (keepF hbk hlo hfz.out)
    replace hlo := Nat.lt_of_lt_of_le hlo hbk.size
    replace hh := Lib.hid hh
    try simp only [Act.put, List.setIfInBounds_toArray, List.set_cons_zero, List.set_cons_succ]
    refine wpH_op 9 (oi := { dst := some 34, op := Op.call { callee := Callee.builtin Builtin.append, args := #[Operand.tmp 25, Operand.tmp 33], argTypes := #[25, 25] }, type := 25, pos := "trie.go:87", after := #[{ on := 0, ground := Ground.data }, { on := 8, ground := Ground.data }], guard := none }) rfl (by kernel_rfl) (by rfl) ?_
    refine wp_appI (.tmp 25) (.tmp 33) rfl (w0.heap.size + 1) _ l rfl hrow.out m 0 1 1 [(ky, vt)] rfl rfl (isrc_blk hh.out) (by omega) hlo ?_
    intro v2 wa hrow2 hba
    replace hS := hS.trans (hba.mono (Nat.le_succ _))
    refine ⟨hS, ?_⟩
    replace hcell := Lib.hid ((hba.cell (p := ⟨w0.heap.size, 0, none⟩) (Nat.lt_succ_self _)).trans hcell.out)
    replace hfz := Lib.hid ((hba.frozen (p := ⟨w0.heap.size, 0, none⟩) (Nat.lt_succ_self _)).trans hfz.out)
    replace hlo := Nat.lt_of_lt_of_le hlo hba.size
    obtain ⟨v2a, v2c, rfl⟩ := hrow2.form
    replace hrow2 := Lib.hid hrow2
    try simp only [Act.put, List.setIfInBounds_toArray, List.set_cons_zero, List.set_cons_succ]
    refine wpH_op 10 (oi := { dst := none, op := Op.store 25 (Operand.tmp 2) (Operand.tmp 34), type := 0, pos := "trie.go:87", after := #[{ on := 9, ground := Ground.data }, { on := 9, ground := Ground.chain }, { on := 0, ground := Ground.phase }, { on := 1, ground := Ground.phase }, { on := 2, ground := Ground.phase }, { on := 3, ground := Ground.phase }, { on := 4, ground := Ground.phase }, { on := 5, ground := Ground.phase }, { on := 6, ground := Ground.phase }, { on := 7, ground := Ground.phase }, { on := 8, ground := Ground.phase }, { on := 9, ground := Ground.phase }], guard := none }) rfl (by kernel_rfl) (by rfl) ?_
    refine wp_storeSl (.tmp 2) (.tmp 34) rfl w0.heap.size 0 rfl v2a _ v2c rfl _ hcell.out hfz.out ?_
    refine ⟨hS.setCell (p := ⟨w0.heap.size, 0, none⟩) (Nat.le_refl _) _, ?_⟩
    replace hS := hS.setCell (p := ⟨w0.heap.size, 0, none⟩) (Nat.le_refl _) (.slice v2a (l ++ [(ky, vt)]).length v2c)
    have hrow3 := Lib.hid (hrow2.out.kept (w' := World.setCell _ ⟨w0.heap.size, 0, none⟩ (.slice v2a (l ++ [(ky, vt)]).length v2c)) (fun k hk => (Below.heap_setCell _ _ _ _ (by have := hrow2.out.own k hk; simp; omega))))
    try simp only [Act.put, List.setIfInBounds_toArray, List.set_cons_zero, List.set_cons_succ]
    refine wpAnyH_done (by kernel_rfl) ?_ _
    go_wp2_with fail
    go_ret
    exact ⟨rfl, hw1.trans hS, ⟨HO1.out.below.trans hS, ⟨_, World.cell?_setCell_same _ _ _ hcell.out, hrow3.out⟩, (World.frozen?_setCell _ _ _ _).trans hfz.out, by simpa [World.setCell] using hlo⟩⟩
    refine wpO_op (oi := { dst := some 33, op := Op.buildSlice 25 1 #[(0, Operand.tmp 32)], type := 25, pos := "trie.go:87", after := #[{ on := 7, ground := Ground.data }], guard := none }) rfl (by rfl) ?_
    refine wp_newK 44 #[.string ⟨List.toArray (ky)⟩, .string ⟨List.toArray (vt)⟩] (fun m => .slice (some ⟨m, 0, none⟩) 1 1) (fun w => by go_simp; try rfl) ?_
    intro m wk hm hh hmk hbk
    replace hS := hS.trans (hbk.mono (Nat.le_of_lt hlo))
    refine ⟨hS, ?_⟩
    replace hcell := Lib.hid (keepC hbk hcell.out)
    replace hrow := Lib.hid (hrow.out.keep hbk)
    replace hfz := Lib.hid (keepF hbk hlo hfz.out)
    replace hlo := Nat.lt_of_lt_of_le hlo hbk.size
    replace hh := Lib.hid hh
    try simp only [Act.put, List.setIfInBounds_toArray, List.set_cons_zero, List.set_cons_succ]
    refine wpH_op 0 (oi := { dst := some 25, op := Op.load 25 (Operand.tmp 2), type := 25, pos := "trie.go:87", after := #[], guard := none }) rfl (by kernel_rfl) (by rfl) ?_
    refine wp_load1 25 (.tmp 2) rfl ⟨w0.heap.size, 0, none⟩ rfl (.slice va l.length vc) (load_sl _ _ _ _ _ hcell.out) ?_
    refine ⟨hS, ?_⟩
    try simp only [Act.put, List.setIfInBounds_toArray, List.set_cons_zero, List.set_cons_succ]
    refine wpH_op 9 (oi := { dst := some 34, op := Op.call { callee := Callee.builtin Builtin.append, args := #[Operand.tmp 25, Operand.tmp 33], argTypes := #[25, 25] }, type := 25, pos := "trie.go:87", after := #[{ on := 0, ground := Ground.data }, { on := 8, ground := Ground.data }], guard := none }) rfl (by kernel_rfl) (by rfl) ?_
    refine wp_appI (.tmp 25) (.tmp 33) rfl (w0.heap.size + 1) _ l rfl hrow.out m 0 1 1 [(ky, vt)] rfl rfl (isrc_blk hh.out) (by omega) hlo ?_
    intro v2 wa hrow2 hba
    replace hS := hS.trans (hba.mono (Nat.le_succ _))
    refine ⟨hS, ?_⟩
    replace hcell := Lib.hid ((hba.cell (p := ⟨w0.heap.size, 0, none⟩) (Nat.lt_succ_self _)).trans hcell.out)
    replace hfz := Lib.hid ((hba.frozen (p := ⟨w0.heap.size, 0, none⟩) (Nat.lt_succ_self _)).trans hfz.out)
    replace hlo := Nat.lt_of_lt_of_le hlo hba.size
    obtain ⟨v2a, v2c, rfl⟩ := hrow2.form
    replace hrow2 := Lib.hid hrow2
    try simp only [Act.put, List.setIfInBounds_toArray, List.set_cons_zero, List.set_cons_succ]
    refine wpH_op 10 (oi := { dst := none, op := Op.store 25 (Operand.tmp 2) (Operand.tmp 34), type := 0, pos := "trie.go:87", after := #[{ on := 9, ground := Ground.data }, { on := 9, ground := Ground.chain }, { on := 0, ground := Ground.phase }, { on := 1, ground := Ground.phase }, { on := 2, ground := Ground.phase }, { on := 3, ground := Ground.phase }, { on := 4, ground := Ground.phase }, { on := 5, ground := Ground.phase }, { on := 6, ground := Ground.phase }, { on := 7, ground := Ground.phase }, { on := 8, ground := Ground.phase }, { on := 9, ground := Ground.phase }], guard := none }) rfl (by kernel_rfl) (by rfl) ?_
    refine wp_storeSl (.tmp 2) (.tmp 34) rfl w0.heap.size 0 rfl v2a _ v2c rfl _ hcell.out hfz.out ?_
    refine ⟨hS.setCell (p := ⟨w0.heap.size, 0, none⟩) (Nat.le_refl _) _, ?_⟩
    replace hS := hS.setCell (p := ⟨w0.heap.size, 0, none⟩) (Nat.le_refl _) (.slice v2a (l ++ [(ky, vt)]).length v2c)
    have hrow3 := Lib.hid (hrow2.out.kept (w' := World.setCell _ ⟨w0.heap.size, 0, none⟩ (.slice v2a (l ++ [(ky, vt)]).length v2c)) (fun k hk => (Below.heap_setCell _ _ _ _ (by have := hrow2.out.own k hk; simp; omega))))
    try simp only [Act.put, List.setIfInBounds_toArray, List.set_cons_zero, List.set_cons_succ]
    refine wpAnyH_done (by kernel_rfl) ?_ _
    go_wp2_with fail
    go_ret
    exact ⟨rfl, hw1.trans hS, ⟨HO1.out.below.trans hS, ⟨_, World.cell?_setCell_same _ _ _ hcell.out, hrow3.out⟩, (World.frozen?_setCell _ _ _ _).trans hfz.out, by simpa [World.setCell] using hlo⟩⟩
end Go.Proofs.YtdaihimdkgmboaaDoor
