/- Certificates as bytes, and again: the program's and the document's. -/
import Derived.Test.YtmldonbmjgelnaaDoorCert
set_option linter.unusedSimpArgs false
set_option linter.unusedVariables false
namespace Go.Proofs.YtmldonbmjgelnaaDoor
open Go.RowKit Pl

namespace Pl
def encC (d : Bs) (l : List Bs) : Bs := d ++ encS l
def encCR (d : Bs) (l : List Bs) : Bs × Int := if mayC d l then (encC d l, 0) else ([], 3)
/-- The certificate of bytes. -/
def decC (s : Bs) : (Bs × List Bs) × Int :=
  let b := mBytes s 0 32
  let L := mList b.2.1 b.2.2 7 6
  if mEnd L.2.1 L.2.2 = 0 ∧ mayC b.1 L.1 = true then ((b.1, L.1), 0) else (([], []), 3)
theorem okS_len : ∀ (l : List Bs) (z : Bs), okS z l = true → ∀ i, i < l.length → (l.getD i []).length ≤ 6
  | n :: r, z, h, i, hi => by
    simp only [okS, Bool.and_eq_true, Bool.not_eq_true', Bool.or_eq_false_iff, decide_eq_false_iff_not] at h
    obtain ⟨⟨h1, h2⟩, h5⟩ := h
    match i with
    | 0 => simp; omega
    | j + 1 => exact okS_len r n h5 j (by simpa using hi)
theorem mayC_parts {d : Bs} {l : List Bs} (h : mayC d l = true) : d.length = 32 ∧ l.length ≤ 7 ∧ okS [] l = true ∧ ∀ i, i < l.length → (l.getD i []).length ≤ 6 := by
  simp only [mayC, Bool.and_eq_true, decide_eq_true_eq] at h
  exact ⟨h.1.1, h.1.2, h.2, okS_len l [] h.2⟩
theorem encS_len (l : List Bs) (h7 : l.length ≤ 7) (h : ∀ i, i < l.length → (l.getD i []).length ≤ 6) : (encS l).length ≤ 200 := by
  have h1 := listB_len l 6 h l.length (Nat.le_refl _)
  rw [List.take_length] at h1
  have hn9 := num_len l.length
  simp only [encS, List.length_append]
  omega
end Pl

theorem rowC : RowT Tryd.prog 51 2 := RowT.mk' Tryd.underlying51 rfl (by kernel_rfl)
theorem results_ct {P : Program} {fn : Func} {a b : Nat} {t : TypeId} (h : fn.results = #[.cell a t, .tmp b]) (tmps : Array Value) (w : World) (p : Addr) (v : Value) (hp : tmps.getD a undef = .pointer (some p)) (hl : (loadVar t p).run P w = .ok v w) :
    (results fn tmps).run P w = .ok (.tuple #[v, tmps.getD b undef]) w := by
  unfold results
  rw [h]
  rw [Array.getD_eq_getD_getElem?] at hp
  simp [hp, asAddr, hl, Sem.run_bind]
theorem rowC_load {w : World} {b : Nat} {x y : Value} (hB : Blk w b #[x, y]) : (loadVar 51 ⟨b, 0, none⟩).run Tryd.prog w = .ok (.agg #[x, y]) w :=
  row_loadVar rowC w (vs := [x, y]) rfl hB

set_option maxRecDepth 100000 in
set_option maxHeartbeats 400000 in
theorem cencode_any (v : Value) (d : Bs) (l : List Bs) (w : World) (hv : CV w v d l) :
    Calls Tryd.prog 40 #[v] w fun e w' => e = .returned (.tuple #[.string ⟨List.toArray ((encCR d l).1)⟩, .int .i64 ((encCR d l).2)]) ∧ Below w.heap.size w w' := by
  generalize hr : encCR d l = r
  have HR := Lib.hid hr
  clear hr
  obtain ⟨u, rfl, hu⟩ := hv
  obtain ⟨a, c, rfl⟩ := hu.form
  have hb0 : Below w.heap.size w (w.alloc (.cells #[.string ⟨List.toArray (d)⟩, .slice a l.length c] 51)) := Below.allocS (Below.refl _ _) _
  have B0 : Blk (w.alloc (.cells #[.string ⟨List.toArray (d)⟩, .slice a l.length c] 51)) w.heap.size #[.string ⟨List.toArray (d)⟩, .slice a l.length c] := Blk.new _ _ _
  have V0 := hu.keep hb0
  have HV := Lib.hid V0
  have hmay := cmay_any _ d l _ ⟨_, rfl, V0⟩
  clear hu V0
  cases hc : mayC d l
  · rw [hc] at hmay
    have HC := Lib.hid hmay
    have HR2 : Hid (([], 3) = r) := Lib.hid (by rw [← HR.out]; simp [encCR, hc])
    clear hmay hc HR
    go_enter Tryd.func40, Tryd.ntmps40
    go_wp2_with fail
    refine HC.out.mono ?_
    rintro e w1 ⟨rfl, hb⟩
    go_wp2_with fail
    all_goals (go_ret2; refine ⟨?_, hb0.trans (hb.mono hb0.size)⟩; rw [← HR2.out]; rfl)
  · rw [hc] at hmay
    have HC := Lib.hid hmay
    have HR2 : Hid ((encC d l, 0) = r) := Lib.hid (by rw [← HR.out]; simp [encCR, hc])
    obtain ⟨p1, p2, _, p3⟩ := mayC_parts hc
    have HP := Lib.hid p3
    have hes := encS_len l p2 p3
    have hcat : ¬ 9223372036854775807 < d.length + (encS l).length := by omega
    have HP1 := Lib.hid p1
    clear hmay hc HR p3 p1
    go_enter Tryd.func40, Tryd.ntmps40
    go_wp2_with fail
    refine HC.out.mono ?_
    rintro e w1 ⟨rfl, hb⟩
    have B1 := B0.keep hb
    have V1 := HV.out.keep hb
    go_wp2_with fail
    refine wpH_start (by kernel_rfl) (fun hS => ?_)
    (refine wpH_pure 0 ?_ (oi := { dst := some 7, op := Op.fieldAddr 51 (Operand.tmp 1) 0, type := 0, pos := "cert.go:97", after := #[], guard := none }) rfl (by kernel_rfl) (by kernel_rfl) (by kernel_rfl) (by rfl) hS (fun _ _ _ h => h) ?_ ?_; rotate_left; focus (intro w; go_simp; try with_reducible rfl))
    try simp only [Act.put, List.setIfInBounds_toArray, List.set_cons_zero, List.set_cons_succ]
    refine wpH_load 1 (.string ⟨List.toArray (d)⟩) (oi := { dst := some 8, op := Op.load 9 (Operand.tmp 7), type := 9, pos := "cert.go:97", after := #[{ on := 0, ground := Ground.data }], guard := none }) rfl (by kernel_rfl) (by kernel_rfl) (by kernel_rfl) (by rfl) hS (fun _ _ _ h => h) (fun w hb => (by have c := (B1.keep hb).cell 0; go_simp; try rfl)) ?_
    try simp only [Act.put, List.setIfInBounds_toArray, List.set_cons_zero, List.set_cons_succ]
    (refine wpH_pure 2 ?_ (oi := { dst := some 9, op := Op.fieldAddr 51 (Operand.tmp 1) 1, type := 0, pos := "cert.go:97", after := #[], guard := none }) rfl (by kernel_rfl) (by kernel_rfl) (by kernel_rfl) (by rfl) hS (fun _ _ _ h => h) ?_ ?_; rotate_left; focus (intro w; go_simp; try with_reducible rfl))
    try simp only [Act.put, List.setIfInBounds_toArray, List.set_cons_zero, List.set_cons_succ]
    refine wpH_load 3 (.slice a l.length c) (oi := { dst := some 10, op := Op.load 35 (Operand.tmp 9), type := 35, pos := "cert.go:97", after := #[{ on := 2, ground := Ground.data }], guard := none }) rfl (by kernel_rfl) (by kernel_rfl) (by kernel_rfl) (by rfl) hS (fun _ _ _ h => h) (fun w hb => (by have c := (B1.keep hb).cell 1; go_simp; try rfl)) ?_
    try simp only [Act.put, List.setIfInBounds_toArray, List.set_cons_zero, List.set_cons_succ]
    refine wpH_call 4 (oi := { dst := some 11, op := Op.call { callee := Callee.value (Operand.func 84), args := #[Operand.tmp 10], argTypes := #[35] }, type := 9, pos := "cert.go:97", after := #[{ on := 3, ground := Ground.data }], guard := none }) rfl (by kernel_rfl) (by rfl) (clist_any _ l _ (by omega) (fun i hi => by have := HP.out i hi; omega) (V1.keep hS)) ?_ ?_
    · (go_simp; try rfl)
    rintro e w' ⟨rfl, hbx⟩
    refine ⟨_, rfl, hS.trans (hbx.mono hS.size), ?_⟩
    replace hS := hS.trans (hbx.mono hS.size)
    try simp only [Act.put, List.setIfInBounds_toArray, List.set_cons_zero, List.set_cons_succ]
    (refine wpH_pure 5 ?_ (oi := { dst := some 12, op := Op.binOp BinOp.add 9 (Operand.tmp 8) (Operand.tmp 11) 9, type := 9, pos := "cert.go:97", after := #[{ on := 1, ground := Ground.data }, { on := 4, ground := Ground.data }], guard := none }) rfl (by kernel_rfl) (by kernel_rfl) (by kernel_rfl) (by rfl) hS (fun _ _ _ h => h) ?_ ?_; rotate_left; focus (intro w; go_simp; try with_reducible rfl))
    try simp only [Act.put, List.setIfInBounds_toArray, List.set_cons_zero, List.set_cons_succ]
    (refine wpH_pure 6 ?_ (oi := { dst := some 2, op := Op.assign (Operand.tmp 12), type := 9, pos := "cert.go:97", after := #[{ on := 5, ground := Ground.data }, { on := 4, ground := Ground.chain }, { on := 0, ground := Ground.phase }, { on := 1, ground := Ground.phase }, { on := 2, ground := Ground.phase }, { on := 3, ground := Ground.phase }, { on := 4, ground := Ground.phase }, { on := 5, ground := Ground.phase }], guard := none }) rfl (by kernel_rfl) (by kernel_rfl) (by kernel_rfl) (by rfl) hS (fun _ _ _ h => h) ?_ ?_; rotate_left; focus (intro w; go_simp; try with_reducible rfl))
    try simp only [Act.put, List.setIfInBounds_toArray, List.set_cons_zero, List.set_cons_succ]
    (refine wpH_pure 7 ?_ (oi := { dst := some 3, op := Op.assign (Operand.const (Value.int IntKind.i64 0)), type := 27, pos := "cert.go:97", after := #[{ on := 6, ground := Ground.chain }, { on := 0, ground := Ground.phase }, { on := 1, ground := Ground.phase }, { on := 2, ground := Ground.phase }, { on := 3, ground := Ground.phase }, { on := 4, ground := Ground.phase }, { on := 5, ground := Ground.phase }, { on := 6, ground := Ground.phase }], guard := none }) rfl (by kernel_rfl) (by kernel_rfl) (by kernel_rfl) (by rfl) hS (fun _ _ _ h => h) ?_ ?_; rotate_left; focus (intro w; go_simp; try with_reducible rfl))
    try simp only [Act.put, List.setIfInBounds_toArray, List.set_cons_zero, List.set_cons_succ]
    refine wpAnyH_done (by kernel_rfl) ?_ _
    go_wp2_with fail
    all_goals (go_ret2; refine ⟨?_, (hb0.trans (hb.mono hb0.size)).trans (hS.mono (hb0.trans (hb.mono hb0.size)).size)⟩; rw [← HR2.out]; rfl)
set_option maxRecDepth 100000 in
set_option maxHeartbeats 400000 in
theorem rcencode_any (v : Value) (d : Bs) (l : List Bs) (w : World) (hv : CV w v d l) :
    Calls Tryd.prog 41 #[v] w fun e w' => e = .returned (.tuple #[.string ⟨List.toArray ((encCR d l).1)⟩, .int .i64 ((encCR d l).2)]) ∧ Below w.heap.size w w' := by
  generalize hr : encCR d l = r
  have HR := Lib.hid hr
  clear hr
  obtain ⟨u, rfl, hu⟩ := hv
  obtain ⟨a, c, rfl⟩ := hu.form
  have hb0 : Below w.heap.size w (w.alloc (.cells #[.string ⟨List.toArray (d)⟩, .slice a l.length c] 51)) := Below.allocS (Below.refl _ _) _
  have B0 : Blk (w.alloc (.cells #[.string ⟨List.toArray (d)⟩, .slice a l.length c] 51)) w.heap.size #[.string ⟨List.toArray (d)⟩, .slice a l.length c] := Blk.new _ _ _
  have V0 := hu.keep hb0
  have HV := Lib.hid V0
  have hmay := rmay_any _ d l _ ⟨_, rfl, V0⟩
  clear hu V0
  cases hc : mayC d l
  · rw [hc] at hmay
    have HC := Lib.hid hmay
    have HR2 : Hid (([], 3) = r) := Lib.hid (by rw [← HR.out]; simp [encCR, hc])
    clear hmay hc HR
    go_enter Tryd.func41, Tryd.ntmps41
    go_wp2_with fail
    refine HC.out.mono ?_
    rintro e w1 ⟨rfl, hb⟩
    go_wp2_with fail
    all_goals (go_ret2; refine ⟨?_, hb0.trans (hb.mono hb0.size)⟩; rw [← HR2.out]; rfl)
  · rw [hc] at hmay
    have HC := Lib.hid hmay
    have HR2 : Hid ((encC d l, 0) = r) := Lib.hid (by rw [← HR.out]; simp [encCR, hc])
    obtain ⟨p1, p2, _, p3⟩ := mayC_parts hc
    have HP := Lib.hid p3
    have hes := encS_len l p2 p3
    have hcat : ¬ 9223372036854775807 < d.length + (encS l).length := by omega
    have HP1 := Lib.hid p1
    clear hmay hc HR p3 p1
    go_enter Tryd.func41, Tryd.ntmps41
    go_wp2_with fail
    refine HC.out.mono ?_
    rintro e w1 ⟨rfl, hb⟩
    have B1 := B0.keep hb
    have V1 := HV.out.keep hb
    go_wp2_with fail
    refine wpH_start (by kernel_rfl) (fun hS => ?_)
    (refine wpH_pure 0 ?_ (oi := { dst := some 7, op := Op.fieldAddr 51 (Operand.tmp 1) 0, type := 0, pos := "ref.go:112", after := #[], guard := none }) rfl (by kernel_rfl) (by kernel_rfl) (by kernel_rfl) (by rfl) hS (fun _ _ _ h => h) ?_ ?_; rotate_left; focus (intro w; go_simp; try with_reducible rfl))
    try simp only [Act.put, List.setIfInBounds_toArray, List.set_cons_zero, List.set_cons_succ]
    refine wpH_load 1 (.string ⟨List.toArray (d)⟩) (oi := { dst := some 8, op := Op.load 9 (Operand.tmp 7), type := 9, pos := "ref.go:112", after := #[{ on := 0, ground := Ground.data }], guard := none }) rfl (by kernel_rfl) (by kernel_rfl) (by kernel_rfl) (by rfl) hS (fun _ _ _ h => h) (fun w hb => (by have c := (B1.keep hb).cell 0; go_simp; try rfl)) ?_
    try simp only [Act.put, List.setIfInBounds_toArray, List.set_cons_zero, List.set_cons_succ]
    (refine wpH_pure 2 ?_ (oi := { dst := some 9, op := Op.fieldAddr 51 (Operand.tmp 1) 1, type := 0, pos := "ref.go:112", after := #[], guard := none }) rfl (by kernel_rfl) (by kernel_rfl) (by kernel_rfl) (by rfl) hS (fun _ _ _ h => h) ?_ ?_; rotate_left; focus (intro w; go_simp; try with_reducible rfl))
    try simp only [Act.put, List.setIfInBounds_toArray, List.set_cons_zero, List.set_cons_succ]
    refine wpH_load 3 (.slice a l.length c) (oi := { dst := some 10, op := Op.load 35 (Operand.tmp 9), type := 35, pos := "ref.go:112", after := #[{ on := 2, ground := Ground.data }], guard := none }) rfl (by kernel_rfl) (by kernel_rfl) (by kernel_rfl) (by rfl) hS (fun _ _ _ h => h) (fun w hb => (by have c := (B1.keep hb).cell 1; go_simp; try rfl)) ?_
    try simp only [Act.put, List.setIfInBounds_toArray, List.set_cons_zero, List.set_cons_succ]
    refine wpH_call 4 (oi := { dst := some 11, op := Op.call { callee := Callee.value (Operand.func 86), args := #[Operand.tmp 10], argTypes := #[35] }, type := 9, pos := "ref.go:112", after := #[{ on := 3, ground := Ground.data }], guard := none }) rfl (by kernel_rfl) (by rfl) (rflist_any _ l _ (by omega) (fun i hi => by have := HP.out i hi; omega) (V1.keep hS)) ?_ ?_
    · (go_simp; try rfl)
    rintro e w' ⟨rfl, hbx⟩
    refine ⟨_, rfl, hS.trans (hbx.mono hS.size), ?_⟩
    replace hS := hS.trans (hbx.mono hS.size)
    try simp only [Act.put, List.setIfInBounds_toArray, List.set_cons_zero, List.set_cons_succ]
    (refine wpH_pure 5 ?_ (oi := { dst := some 12, op := Op.binOp BinOp.add 9 (Operand.tmp 8) (Operand.tmp 11) 9, type := 9, pos := "ref.go:112", after := #[{ on := 1, ground := Ground.data }, { on := 4, ground := Ground.data }], guard := none }) rfl (by kernel_rfl) (by kernel_rfl) (by kernel_rfl) (by rfl) hS (fun _ _ _ h => h) ?_ ?_; rotate_left; focus (intro w; go_simp; try with_reducible rfl))
    try simp only [Act.put, List.setIfInBounds_toArray, List.set_cons_zero, List.set_cons_succ]
    (refine wpH_pure 6 ?_ (oi := { dst := some 2, op := Op.assign (Operand.tmp 12), type := 9, pos := "ref.go:112", after := #[{ on := 5, ground := Ground.data }, { on := 4, ground := Ground.chain }, { on := 0, ground := Ground.phase }, { on := 1, ground := Ground.phase }, { on := 2, ground := Ground.phase }, { on := 3, ground := Ground.phase }, { on := 4, ground := Ground.phase }, { on := 5, ground := Ground.phase }], guard := none }) rfl (by kernel_rfl) (by kernel_rfl) (by kernel_rfl) (by rfl) hS (fun _ _ _ h => h) ?_ ?_; rotate_left; focus (intro w; go_simp; try with_reducible rfl))
    try simp only [Act.put, List.setIfInBounds_toArray, List.set_cons_zero, List.set_cons_succ]
    (refine wpH_pure 7 ?_ (oi := { dst := some 3, op := Op.assign (Operand.const (Value.int IntKind.i64 0)), type := 27, pos := "ref.go:112", after := #[{ on := 6, ground := Ground.chain }, { on := 0, ground := Ground.phase }, { on := 1, ground := Ground.phase }, { on := 2, ground := Ground.phase }, { on := 3, ground := Ground.phase }, { on := 4, ground := Ground.phase }, { on := 5, ground := Ground.phase }, { on := 6, ground := Ground.phase }], guard := none }) rfl (by kernel_rfl) (by kernel_rfl) (by kernel_rfl) (by rfl) hS (fun _ _ _ h => h) ?_ ?_; rotate_left; focus (intro w; go_simp; try with_reducible rfl))
    try simp only [Act.put, List.setIfInBounds_toArray, List.set_cons_zero, List.set_cons_succ]
    refine wpAnyH_done (by kernel_rfl) ?_ _
    go_wp2_with fail
    all_goals (go_ret2; refine ⟨?_, (hb0.trans (hb.mono hb0.size)).trans (hS.mono (hb0.trans (hb.mono hb0.size)).size)⟩; rw [← HR2.out]; rfl)

set_option maxRecDepth 100000 in
set_option maxHeartbeats 400000 in
theorem cdecode_any (s : Bs) (hs : s.length ≤ 9223372036854775807) (w : World) :
    Calls Tryd.prog 42 #[.string ⟨List.toArray (s)⟩] w fun e w' => ∃ v, e = .returned (.tuple #[.agg #[.string ⟨List.toArray ((decC s).1.1)⟩, v], .int .i64 ((decC s).2)]) ∧ SRow w' w.heap.size v (decC s).1.2 ∧ Below w.heap.size w w' := by
  generalize hr : decC s = r
  have HR := Lib.hid hr
  clear hr
  have hb0 : Below w.heap.size w (w.alloc (.cells #[.string ⟨List.toArray ([])⟩, .slice none 0 0] 51)) := Below.allocS (Below.refl _ _) _
  have B0 : Blk (w.alloc (.cells #[.string ⟨List.toArray ([])⟩, .slice none 0 0] 51)) w.heap.size #[.string ⟨List.toArray ([])⟩, .slice none 0 0] := Blk.new _ _ _
  go_enter Tryd.func42, Tryd.ntmps42
  go_wp2_with fail
  refine (readNew s _).mono ?_
  rintro e w1 ⟨rfl, rfl⟩
  go_wp2_with fail
  have R0 : Rdr ((w.alloc (.cells #[.string ⟨List.toArray ([])⟩, .slice none 0 0] 51)).alloc (.cells #[.string ⟨List.toArray (s)⟩, .int .i64 (0), .int .i64 (0)] 94)) (w.heap.size + 1) s 0 := ⟨s, 0, hs, by omega, rfl, Blk.new' (by simp)⟩
  have hb1 : Below w.heap.size w ((w.alloc (.cells #[.string ⟨List.toArray ([])⟩, .slice none 0 0] 51)).alloc (.cells #[.string ⟨List.toArray (s)⟩, .int .i64 (0), .int .i64 (0)] 94)) := Below.allocS hb0 _
  have B1 := B0.alloc (.cells #[.string ⟨List.toArray (s)⟩, .int .i64 (0), .int .i64 (0)] 94)
  refine (bytes_any s 0 32 _ _ (by omega) R0).mono ?_
  rintro e w2 ⟨rfl, R2, m2⟩
  have hb2 := Below.mod hb1 m2 hb1.size (by simp)
  have B2 := B1.mod m2 (by simp)
  clear R0 hb1 B1 m2 hb0 B0
  have HR2 : Hid ((if mEnd (mList (mBytes s 0 32).2.1 (mBytes s 0 32).2.2 7 6).2.1 (mList (mBytes s 0 32).2.1 (mBytes s 0 32).2.2 7 6).2.2 = 0 ∧ mayC (mBytes s 0 32).1 (mList (mBytes s 0 32).2.1 (mBytes s 0 32).2.2 7 6).1 = true
    then (((mBytes s 0 32).1, (mList (mBytes s 0 32).2.1 (mBytes s 0 32).2.2 7 6).1), (0 : Int)) else (([], []), 3)) = r) := HR
  clear HR
  generalize mBytes s 0 32 = x at *
  obtain ⟨d, t, c⟩ := x
  simp only at R2 HR2 ⊢
  go_wp2_with fail
  refine (rlist_any t c 7 6 _ _ R2 (by omega)).mono ?_
  rintro e w3 ⟨v, rfl, hS, R3, m3⟩
  have hb3 := Below.mod hb2 m3 hb2.size (by simp)
  have B3 := B2.mod m3 (by simp)
  have hz2 := hb2.size
  have hS3 := hS
  have hlt2 := R2.lt
  clear R2 m3 hS hb2 B2
  generalize mList t c 7 6 = x at *
  obtain ⟨l, t, c⟩ := x
  simp only at R3 HR2 hS3
  obtain ⟨va, vc, rfl⟩ := hS3.form
  go_wp2_with fail
  have hsz := hb3.size
  have R4 := R3.alloc (.cells #[.string ⟨List.toArray (d)⟩, .slice va l.length vc] 51)
  have B4 := B3.alloc (.cells #[.string ⟨List.toArray (d)⟩, .slice va l.length vc] 51)
  have C4 : Blk (w3.alloc (.cells #[.string ⟨List.toArray (d)⟩, .slice va l.length vc] 51)) w3.heap.size #[.string ⟨List.toArray (d)⟩, .slice va l.length vc] := Blk.new _ _ _
  have hS4 := hS3.alloc (.cells #[.string ⟨List.toArray (d)⟩, .slice va l.length vc] 51)
  have hb4 := Below.allocS hb3 (.cells #[.string ⟨List.toArray (d)⟩, .slice va l.length vc] 51)
  have hlt := R3.lt
  refine (rend_any t c _ _ R4).mono ?_
  rintro e w4 ⟨rfl, m4⟩
  have hb5 := Below.mod hb4 m4 hb4.size (by simp)
  have B5 := B4.mod m4 (by simp)
  have C5 := C4.mod m4 (by simp; omega)
  have hS5 : SRow w4 w2.heap.size (.slice va l.length vc) l := hS4.mod m4 hlt2
  clear R3 R4 B3 B4 C4 hS3 hS4 hb4 hb3 m4
  obtain ⟨b1, b2, b3⟩ := id B5
  obtain ⟨c1, c2, c3⟩ := id C5
  generalize mEnd t c = e0 at *
  have hne : w3.heap.size ≠ w.heap.size := by omega
  by_cases he : e0 = 0
  · subst he
    go_wp2_with fail
    refine (cmay_any _ d l _ ⟨_, rfl, hS5.ss⟩).mono ?_
    rintro e w6 ⟨rfl, hb⟩
    have B6 := B5.keep hb
    have C6 := C5.keep hb
    have hS6 := hS5.keep hb
    have hb6 := hb5.trans (hb.mono hb5.size)
    clear hb hb5 B5 C5 hS5 b1 b2 b3 c1 c2 c3
    obtain ⟨b1, b2, b3⟩ := id B6
    obtain ⟨c1, c2, c3⟩ := id C6
    cases hm : mayC d l
    · have HR3 : Hid ((([], []), (3 : Int)) = r) := Lib.hid (by rw [← HR2.out, if_neg (fun h => by simp [hm] at h)])
      clear HR2 hm
      go_wp2_with fail
      refine bodyPost_ret (results_ct rfl _ _ _ _ rfl (rowC_load (x := .string ⟨List.toArray ([])⟩) (y := .slice none 0 0) ((B6.set 0 _).set 1 _))) rfl ?_
      refine ⟨.slice none 0 0, ?_, ?_, ?_⟩
      · rw [← HR3.out]; rfl
      · rw [← HR3.out]; exact SRow.nil _ _
      · (repeat (first | exact Below.refl _ _ | assumption | apply Below.drew | apply below_drewN | apply Below.allocS | (refine Below.setCell ?_ (by simp <;> omega) _) | (refine Below.alloc ?_ (by simp <;> omega) _) | (refine Below.trans ?_ (Below.mono (by assumption) (by simp <;> omega)))))
    · have HR3 : Hid (((d, l), (0 : Int)) = r) := Lib.hid (by rw [← HR2.out]; simp [hm])
      clear HR2 hm
      go_wp2_with fail
      refine bodyPost_ret (results_ct rfl _ _ _ _ rfl (rowC_load (x := .string ⟨List.toArray (d)⟩) (y := .slice va l.length vc) ((B6.set 0 _).set 1 _))) rfl ?_
      refine ⟨.slice va l.length vc, ?_, ?_, ?_⟩
      · rw [← HR3.out]; rfl
      · rw [← HR3.out]; exact (SRow.mod (p := w.heap.size) hS6 (((Mod.refl _ _).setCell (.inl (by simp)) _).setCell (.inl (by simp)) _) (by omega)).low hz2
      · (repeat (first | exact Below.refl _ _ | assumption | apply Below.drew | apply below_drewN | apply Below.allocS | (refine Below.setCell ?_ (by simp <;> omega) _) | (refine Below.alloc ?_ (by simp <;> omega) _) | (refine Below.trans ?_ (Below.mono (by assumption) (by simp <;> omega)))))
  · have he1 : (e0 != 0) = true := by simpa using he
    have HR3 : Hid ((([], []), (3 : Int)) = r) := Lib.hid (by rw [← HR2.out, if_neg (fun h => he h.1)])
    clear HR2
    go_wp2_with fail
    refine bodyPost_ret (results_ct rfl _ _ _ _ rfl (rowC_load (x := .string ⟨List.toArray ([])⟩) (y := .slice none 0 0) ((B5.set 0 _).set 1 _))) rfl ?_
    refine ⟨.slice none 0 0, ?_, ?_, ?_⟩
    · rw [← HR3.out]; rfl
    · rw [← HR3.out]; exact SRow.nil _ _
    · (repeat (first | exact Below.refl _ _ | assumption | apply Below.drew | apply below_drewN | apply Below.allocS | (refine Below.setCell ?_ (by simp <;> omega) _) | (refine Below.alloc ?_ (by simp <;> omega) _) | (refine Below.trans ?_ (Below.mono (by assumption) (by simp <;> omega)))))

namespace Pl
theorem decC_short (s : Bs) (h : s.length < 32) : decC s = (([], []), 3) := by
  have hb : mBytes s 0 32 = ([], s, 20) := by unfold mBytes; rw [if_neg (by simp), if_neg (by omega), if_pos (by omega)]
  have he : ¬ mEnd s 20 = 0 := by unfold mEnd; rw [if_neg (by simp)]; simp
  unfold decC
  rw [hb]
  simp only [mList_c s 20 7 6 (by simp)]
  rw [if_neg (fun h => he h.1)]
theorem decC_long (s : Bs) (h : ¬ s.length < 32) : decC s = if mEnd (mList (s.drop 32) 0 7 6).2.1 (mList (s.drop 32) 0 7 6).2.2 = 0 ∧ mayC (s.take 32) (mList (s.drop 32) 0 7 6).1 = true then ((s.take 32, (mList (s.drop 32) 0 7 6).1), 0) else (([], []), 3) := by
  have hb : mBytes s 0 32 = (s.take 32, s.drop 32, 0) := by unfold mBytes; rw [if_neg (by simp), if_neg (by omega), if_neg (by omega)]; rfl
  unfold decC
  rw [hb]
end Pl

set_option maxRecDepth 100000 in
set_option maxHeartbeats 400000 in
theorem rcdecode_any (s : Bs) (hs : s.length < 9223372036854775800) (w : World) :
    Calls Tryd.prog 43 #[.string ⟨List.toArray (s)⟩] w fun e w' => ∃ v, e = .returned (.tuple #[.agg #[.string ⟨List.toArray ((decC s).1.1)⟩, v], .int .i64 ((decC s).2)]) ∧ SRow w' w.heap.size v (decC s).1.2 ∧ Below w.heap.size w w' := by
  generalize hr : decC s = r
  have HR := Lib.hid hr
  clear hr
  have hb0 : Below w.heap.size w (w.alloc (.cells #[.string ⟨List.toArray ([])⟩, .slice none 0 0] 51)) := Below.allocS (Below.refl _ _) _
  have B0 : Blk (w.alloc (.cells #[.string ⟨List.toArray ([])⟩, .slice none 0 0] 51)) w.heap.size #[.string ⟨List.toArray ([])⟩, .slice none 0 0] := Blk.new _ _ _
  by_cases hl : s.length < 32
  · have hd : decide ((s.length : Int) < 32) = true := by simp; omega
    have HR3 : Hid ((([], []), (3 : Int)) = r) := Lib.hid (by rw [← HR.out, decC_short s hl])
    clear HR
    go_enter Tryd.func43, Tryd.ntmps43
    go_wp2_with fail
    refine bodyPost_ret (results_ct rfl _ _ _ _ rfl (rowC_load (x := .string ⟨List.toArray ([])⟩) (y := .slice none 0 0) B0)) rfl ?_
    refine ⟨.slice none 0 0, ?_, ?_, ?_⟩
    · rw [← HR3.out]; rfl
    · rw [← HR3.out]; exact SRow.nil _ _
    · (repeat (first | exact Below.refl _ _ | assumption | apply Below.drew | apply below_drewN | apply Below.allocS | (refine Below.setCell ?_ (by simp <;> omega) _) | (refine Below.alloc ?_ (by simp <;> omega) _) | (refine Below.trans ?_ (Below.mono (by assumption) (by simp <;> omega)))))
  · have hd : decide ((s.length : Int) < 32) = false := by simp; omega
    have hd2 : (32 : Int) ≤ (s.length : Int) := by omega
    have HR2 : Hid ((if mEnd (mList (s.drop 32) 0 7 6).2.1 (mList (s.drop 32) 0 7 6).2.2 = 0 ∧ mayC (s.take 32) (mList (s.drop 32) 0 7 6).1 = true then ((s.take 32, (mList (s.drop 32) 0 7 6).1), (0 : Int)) else (([], []), 3)) = r) := Lib.hid (by rw [← HR.out, decC_long s hl])
    have hl2 : (s.drop 32).length < 9223372036854775800 := by simp; omega
    clear HR
    go_enter Tryd.func43, Tryd.ntmps43
    go_wp2_with fail
    rw [show (s.drop 32).take (s.length - 32) = s.drop 32 from List.take_of_length_le (by simp)]
    have R0 : RRdr ((w.alloc (.cells #[.string ⟨List.toArray ([])⟩, .slice none 0 0] 51)).alloc (.cells #[.string ⟨List.toArray (s.drop 32)⟩, .int .i64 (0)] 82)) (w.heap.size + 1) (s.drop 32) 0 := Blk.new' (by simp)
    have hb1 : Below w.heap.size w ((w.alloc (.cells #[.string ⟨List.toArray ([])⟩, .slice none 0 0] 51)).alloc (.cells #[.string ⟨List.toArray (s.drop 32)⟩, .int .i64 (0)] 82)) := Below.allocS hb0 _
    have B1 := B0.alloc (.cells #[.string ⟨List.toArray (s.drop 32)⟩, .int .i64 (0)] 82)
    refine (rrList_any (s.drop 32) 0 7 6 _ _ R0 (by omega) hl2).mono ?_
    rintro e w3 ⟨v, rfl, hS, R3, m3⟩
    have hb3 := Below.mod hb1 m3 hb1.size (by simp)
    have B3 := B1.mod m3 (by simp)
    have hz2 : w.heap.size + 2 ≤ w3.heap.size := by have := m3.size; simpa using this
    have hS3 : SRow w3 (w.heap.size + 2) v (mList (s.drop 32) 0 7 6).1 := by simpa using hS
    have hlr : (mList (s.drop 32) 0 7 6).2.1.length < 9223372036854775800 := Nat.lt_of_le_of_lt (mList_rest _ _ _ _) hl2
    clear R0 hb1 B1 m3 hS hb0 B0
    generalize mList (s.drop 32) 0 7 6 = x at *
    obtain ⟨l, t, c⟩ := x
    simp only at R3 HR2 hS3 hlr
    obtain ⟨va, vc, rfl⟩ := hS3.form
    have hd3 : (32 : Nat) ≤ s.length := by omega
    go_wp2_with fail
    have hsz := hb3.size
    generalize s.take 32 = d at *
    have R4 := (show Blk w3 (w.heap.size + 1) _ from R3).alloc (.cells #[.string ⟨List.toArray (d)⟩, .slice va l.length vc] 51)
    have B4 := B3.alloc (.cells #[.string ⟨List.toArray (d)⟩, .slice va l.length vc] 51)
    have C4 : Blk (w3.alloc (.cells #[.string ⟨List.toArray (d)⟩, .slice va l.length vc] 51)) w3.heap.size #[.string ⟨List.toArray (d)⟩, .slice va l.length vc] := Blk.new _ _ _
    have hS4 := hS3.alloc (.cells #[.string ⟨List.toArray (d)⟩, .slice va l.length vc] 51)
    have hb4 := Below.allocS hb3 (.cells #[.string ⟨List.toArray (d)⟩, .slice va l.length vc] 51)
    refine (rrEnd_any t c _ _ hlr R4).mono ?_
    rintro e w4 ⟨rfl, m4⟩
    have hb5 := Below.mod hb4 m4 hb4.size (by simp)
    have B5 := B4.mod m4 (by simp)
    have C5 := C4.mod m4 (by simp; omega)
    have hS5 : SRow w4 (w.heap.size + 2) (.slice va l.length vc) l := hS4.mod m4 (by omega)
    clear R3 R4 B3 B4 C4 hS3 hS4 hb4 hb3 m4
    obtain ⟨b1, b2, b3⟩ := id B5
    obtain ⟨c1, c2, c3⟩ := id C5
    generalize mEnd t c = e0 at *
    have hne : w3.heap.size ≠ w.heap.size := by omega
    by_cases he : e0 = 0
    · subst he
      go_wp2_with fail
      refine (rmay_any _ d l _ ⟨_, rfl, hS5.ss⟩).mono ?_
      rintro e w6 ⟨rfl, hb⟩
      have B6 := B5.keep hb
      have C6 := C5.keep hb
      have hS6 := hS5.keep hb
      have hb6 := hb5.trans (hb.mono hb5.size)
      clear hb hb5 B5 C5 hS5 b1 b2 b3 c1 c2 c3
      obtain ⟨b1, b2, b3⟩ := id B6
      obtain ⟨c1, c2, c3⟩ := id C6
      cases hm : mayC d l
      · have HR3 : Hid ((([], []), (3 : Int)) = r) := Lib.hid (by rw [← HR2.out, if_neg (fun h => by simp [hm] at h)])
        clear HR2 hm
        go_wp2_with fail
        refine bodyPost_ret (results_ct rfl _ _ _ _ rfl (rowC_load (x := .string ⟨List.toArray ([])⟩) (y := .slice none 0 0) ((B6.set 0 _).set 1 _))) rfl ?_
        refine ⟨.slice none 0 0, ?_, ?_, ?_⟩
        · rw [← HR3.out]; rfl
        · rw [← HR3.out]; exact SRow.nil _ _
        · (repeat (first | exact Below.refl _ _ | assumption | apply Below.drew | apply below_drewN | apply Below.allocS | (refine Below.setCell ?_ (by simp <;> omega) _) | (refine Below.alloc ?_ (by simp <;> omega) _) | (refine Below.trans ?_ (Below.mono (by assumption) (by simp <;> omega)))))
      · have HR3 : Hid (((d, l), (0 : Int)) = r) := Lib.hid (by rw [← HR2.out]; simp [hm])
        clear HR2 hm
        go_wp2_with fail
        refine bodyPost_ret (results_ct rfl _ _ _ _ rfl (rowC_load (x := .string ⟨List.toArray (d)⟩) (y := .slice va l.length vc) ((B6.set 0 _).set 1 _))) rfl ?_
        refine ⟨.slice va l.length vc, ?_, ?_, ?_⟩
        · rw [← HR3.out]; rfl
        · rw [← HR3.out]; exact (SRow.mod (p := w.heap.size) hS6 (((Mod.refl _ _).setCell (.inl (by simp)) _).setCell (.inl (by simp)) _) (by omega)).low (by omega)
        · (repeat (first | exact Below.refl _ _ | assumption | apply Below.drew | apply below_drewN | apply Below.allocS | (refine Below.setCell ?_ (by simp <;> omega) _) | (refine Below.alloc ?_ (by simp <;> omega) _) | (refine Below.trans ?_ (Below.mono (by assumption) (by simp <;> omega)))))
    · have he1 : (e0 != 0) = true := by simpa using he
      have HR3 : Hid ((([], []), (3 : Int)) = r) := Lib.hid (by rw [← HR2.out, if_neg (fun h => he h.1)])
      clear HR2
      go_wp2_with fail
      refine bodyPost_ret (results_ct rfl _ _ _ _ rfl (rowC_load (x := .string ⟨List.toArray ([])⟩) (y := .slice none 0 0) ((B5.set 0 _).set 1 _))) rfl ?_
      refine ⟨.slice none 0 0, ?_, ?_, ?_⟩
      · rw [← HR3.out]; rfl
      · rw [← HR3.out]; exact SRow.nil _ _
      · (repeat (first | exact Below.refl _ _ | assumption | apply Below.drew | apply below_drewN | apply Below.allocS | (refine Below.setCell ?_ (by simp <;> omega) _) | (refine Below.alloc ?_ (by simp <;> omega) _) | (refine Below.trans ?_ (Below.mono (by assumption) (by simp <;> omega)))))

set_option maxRecDepth 100000 in
set_option maxHeartbeats 400000 in
theorem samecert_any (u v : Value) (d e : Bs) (l m : List Bs) (w : World) (hu : CV w u d l) (hv : CV w v e m) :
    Calls Tryd.prog 44 #[u, v] w fun x w' => x = .returned (.bool (d == e && sameL l m)) ∧ Below w.heap.size w w' := by
  obtain ⟨u, rfl, hu⟩ := hu
  obtain ⟨v, rfl, hv⟩ := hv
  obtain ⟨a, c, rfl⟩ := hu.form
  obtain ⟨a2, c2, rfl⟩ := hv.form
  have hb0 : Below w.heap.size w ((w.alloc (.cells #[.string ⟨List.toArray (d)⟩, .slice a l.length c] 51)).alloc (.cells #[.string ⟨List.toArray (e)⟩, .slice a2 m.length c2] 51)) := Below.allocS (Below.allocS (Below.refl _ _) _) _
  have hU := hu.keep hb0
  have hV := hv.keep hb0
  generalize hde : (d == e) = de
  have hde2 : decide (d = e) = de := by rw [← hde]; by_cases h : d = e <;> simp [h]
  cases de
  · go_enter Tryd.func44, Tryd.ntmps44
    go_wp2_with fail
    all_goals (go_ret; exact ⟨rfl, hb0⟩)
  · clear hu hv
    have hs := sametexts_any _ _ l m _ hU hV
    generalize sameL l m = q at *
    have HS := Lib.hid hs
    clear hs
    cases q
    all_goals
      go_enter Tryd.func44, Tryd.ntmps44
      go_wp2_with fail
      refine HS.out.mono ?_
      rintro x w1 ⟨rfl, n, rfl⟩
      go_wp2_with fail
      all_goals (go_ret; exact ⟨rfl, below_drewN hb0 _⟩)
end Go.Proofs.YtmldonbmjgelnaaDoor
