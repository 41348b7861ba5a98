/- WalkA, ScanP, Trie. -/
import Derived.Test.YtdaihimdkgmboaaDoorMg7
import Derived.Test.YtdaihimdkgmboaaDoorMg10
set_option linter.unnecessarySimpa false

/- Walks of layer 10: the items of whatever trie. -/
set_option linter.unusedSimpArgs false
set_option linter.unusedVariables false
namespace Go.Proofs.YtdaihimdkgmboaaDoor
open Go.RowKit Pl

/-- Items' own visit. -/
abbrev vis (w0 : World) : Value := .func (.func 34) #[] #[.pointer (some ⟨w0.heap.size, 0, none⟩)]

set_option maxRecDepth 100000 in
set_option maxHeartbeats 8000000 in
theorem walk_nil (w0 w : World) (place : Bs) (l : List It) (hO : Out w0 w l) :
    Calls Tryd.prog 33 #[.pointer none, .string ⟨List.toArray (place)⟩, vis w0] w (OutP w0 w (l ++ itemsT place .nil) (.tuple #[])) := by
  rw [show itemsT place .nil = [] from rfl, List.append_nil]
  have HO := Lib.hid hO
  clear hO
  go_enter Tryd.func33, Tryd.ntmps33
  go_wp2_with fail
  refine bodyPost_end (results_none rfl _ _ _) rfl ?_
  exact ⟨rfl, Below.refl _ _, HO.out⟩

set_option maxRecDepth 100000 in
set_option maxHeartbeats 8000000 in
theorem walk_ext (w0 : World) (p0 : Bs) (t1 : Tr) (b : Nat) (hT : KAt w0 (.ext p0 t1) (some b)) (place : Bs) (l : List It) (hp : place.length + p0.length ≤ 100000) (hl : l.length ≤ 1000000) (w : World) (hO : Out w0 w l)
    (ih : ∀ (p : Option Nat) (w : World), KAt w0 t1 p → Out w0 w l → Calls Tryd.prog 33 #[ptV p, .string ⟨List.toArray (place ++ p0)⟩, vis w0] w (OutP w0 w (l ++ itemsT (place ++ p0) t1) (.tuple #[]))) :
    Calls Tryd.prog 33 #[.pointer (some ⟨b, 0, none⟩), .string ⟨List.toArray (place)⟩, vis w0] w (OutP w0 w (l ++ itemsT place (.ext p0 t1)) (.tuple #[])) := by
  rw [items_ext]
  obtain ⟨hne, ps, hps, ⟨c0, c1, c2, _, _, _, c6⟩, hB⟩ := hT.open
  have hbl := hB.lt
  simp only [kindT, pathT, valT] at c0 c1 c2
  have hk0 := hps 0 (by omega)
  rw [show kidsOf (.ext p0 t1) 0 = t1 from by simp [kidsOf, updT]] at hk0
  have HV := Lib.hid (visit_any w0 _ b hT place l hp hl w hO)
  rw [show ownI place (.ext p0 t1) = [] from rfl, List.append_nil] at HV
  have HIH := Lib.hid (ih (ps 0))
  have HK0 := Lib.hid hk0
  have hnl : ¬ 9223372036854775807 < List.length place + List.length p0 := by omega
  clear hps hB c2 hne hT ih hO hk0
  go_enter Tryd.func33, Tryd.ntmps33
  go_wp2_with fail
  refine HV.out.mono ?_
  rintro e w1 ⟨rfl, hb1, hO1⟩
  have hw1 := hO1.below
  have d0 := keepC hw1 c0
  have d1 := keepC hw1 c1
  have d6 := keepC hw1 c6
  have HO1 := Lib.hid hO1
  clear c0 c1 c6 hO1
  go_wp2_with fail
  refine wpH_startB (w0.heap.size) (by kernel_rfl) (fun hS => ?_)
  (refine wpH_pure 0 ?_ (oi := { dst := some 23, op := Op.move (Operand.tmp 0), type := 70, pos := "knot.go:155", after := #[], guard := none }) rfl (by kernel_rfl) (by kernel_rfl) (by kernel_rfl) (by rfl) hS (fun _ _ _ h => h) ?_ ?_; rotate_left; focus (intro w; go_simp; try with_reducible rfl))
  try simp only [Act.put, List.setIfInBounds_toArray, List.set_cons_zero, List.set_cons_succ]
  (refine wpH_pure 1 ?_ (oi := { dst := some 24, op := Op.nilCheck (Operand.tmp 23), type := 0, pos := "knot.go:155", after := #[{ on := 0, ground := Ground.data }], guard := none }) rfl (by kernel_rfl) (by kernel_rfl) (by kernel_rfl) (by rfl) hS (fun _ _ _ h => h) ?_ ?_; rotate_left; focus (intro w; go_simp; try with_reducible rfl))
  try simp only [Act.put, List.setIfInBounds_toArray, List.set_cons_zero, List.set_cons_succ]
  (refine wpH_pure 2 ?_ (oi := { dst := some 25, op := Op.fieldAddr 79 (Operand.tmp 24) 1, type := 0, pos := "knot.go:155", after := #[{ on := 1, ground := Ground.data }], guard := none }) rfl (by kernel_rfl) (by kernel_rfl) (by kernel_rfl) (by rfl) hS (fun _ _ _ h => h) ?_ ?_; rotate_left; focus (intro w; go_simp; try with_reducible rfl))
  try simp only [Act.put, List.setIfInBounds_toArray, List.set_cons_zero, List.set_cons_succ]
  (refine wpH_pure 3 ?_ (oi := { dst := some 26, op := Op.indexAddr 77 (Operand.tmp 25) (Operand.const (Value.int IntKind.i64 0)), type := 0, pos := "knot.go:155", after := #[{ on := 2, ground := Ground.data }], guard := none }) rfl (by kernel_rfl) (by kernel_rfl) (by kernel_rfl) (by rfl) hS (fun _ _ _ h => h) ?_ ?_; rotate_left; focus (intro w; go_simp; try with_reducible rfl))
  try simp only [Act.put, List.setIfInBounds_toArray, List.set_cons_zero, List.set_cons_succ]
  refine wpH_load 4 (ptV (ps 0)) (oi := { dst := some 27, op := Op.load 70 (Operand.tmp 26), type := 70, pos := "knot.go:155", after := #[{ on := 3, ground := Ground.data }], guard := none }) rfl (by kernel_rfl) (by kernel_rfl) (by kernel_rfl) (by rfl) hS (fun _ _ _ h => h) (fun w hb => (by have c := (hb.cell (p := ⟨b, 19, none⟩) hbl).trans d6; go_simp; try rfl)) ?_
  try simp only [Act.put, List.setIfInBounds_toArray, List.set_cons_zero, List.set_cons_succ]
  (refine wpH_pure 5 ?_ (oi := { dst := some 28, op := Op.move (Operand.tmp 1), type := 9, pos := "knot.go:155", after := #[], guard := none }) rfl (by kernel_rfl) (by kernel_rfl) (by kernel_rfl) (by rfl) hS (fun _ _ _ h => h) ?_ ?_; rotate_left; focus (intro w; go_simp; try with_reducible rfl))
  try simp only [Act.put, List.setIfInBounds_toArray, List.set_cons_zero, List.set_cons_succ]
  (refine wpH_pure 6 ?_ (oi := { dst := some 29, op := Op.move (Operand.tmp 0), type := 70, pos := "knot.go:155", after := #[], guard := none }) rfl (by kernel_rfl) (by kernel_rfl) (by kernel_rfl) (by rfl) hS (fun _ _ _ h => h) ?_ ?_; rotate_left; focus (intro w; go_simp; try with_reducible rfl))
  try simp only [Act.put, List.setIfInBounds_toArray, List.set_cons_zero, List.set_cons_succ]
  (refine wpH_pure 7 ?_ (oi := { dst := some 30, op := Op.nilCheck (Operand.tmp 29), type := 0, pos := "knot.go:155", after := #[{ on := 6, ground := Ground.data }], guard := none }) rfl (by kernel_rfl) (by kernel_rfl) (by kernel_rfl) (by rfl) hS (fun _ _ _ h => h) ?_ ?_; rotate_left; focus (intro w; go_simp; try with_reducible rfl))
  try simp only [Act.put, List.setIfInBounds_toArray, List.set_cons_zero, List.set_cons_succ]
  (refine wpH_pure 8 ?_ (oi := { dst := some 31, op := Op.fieldAddr 79 (Operand.tmp 30) 0, type := 0, pos := "knot.go:155", after := #[{ on := 7, ground := Ground.data }], guard := none }) rfl (by kernel_rfl) (by kernel_rfl) (by kernel_rfl) (by rfl) hS (fun _ _ _ h => h) ?_ ?_; rotate_left; focus (intro w; go_simp; try with_reducible rfl))
  try simp only [Act.put, List.setIfInBounds_toArray, List.set_cons_zero, List.set_cons_succ]
  (refine wpH_pure 9 ?_ (oi := { dst := some 32, op := Op.fieldAddr 76 (Operand.tmp 31) 1, type := 0, pos := "knot.go:155", after := #[{ on := 8, ground := Ground.data }], guard := none }) rfl (by kernel_rfl) (by kernel_rfl) (by kernel_rfl) (by rfl) hS (fun _ _ _ h => h) ?_ ?_; rotate_left; focus (intro w; go_simp; try with_reducible rfl))
  try simp only [Act.put, List.setIfInBounds_toArray, List.set_cons_zero, List.set_cons_succ]
  refine wpH_load 10 (.string ⟨List.toArray (p0)⟩) (oi := { dst := some 33, op := Op.load 9 (Operand.tmp 32), type := 9, pos := "knot.go:155", after := #[{ on := 9, ground := Ground.data }], guard := none }) rfl (by kernel_rfl) (by kernel_rfl) (by kernel_rfl) (by rfl) hS (fun _ _ _ h => h) (fun w hb => (by have c := (hb.cell (p := ⟨b, 1, none⟩) hbl).trans d1; go_simp; try rfl)) ?_
  try simp only [Act.put, List.setIfInBounds_toArray, List.set_cons_zero, List.set_cons_succ]
  (refine wpH_pure 11 ?_ (oi := { dst := some 34, op := Op.binOp BinOp.add 9 (Operand.tmp 28) (Operand.tmp 33) 9, type := 9, pos := "knot.go:155", after := #[{ on := 5, ground := Ground.data }, { on := 10, ground := Ground.data }], guard := none }) rfl (by kernel_rfl) (by kernel_rfl) (by kernel_rfl) (by rfl) hS (fun _ _ _ h => h) ?_ ?_; rotate_left; focus (intro w; go_simp; try with_reducible rfl))
  try simp only [Act.put, List.setIfInBounds_toArray, List.set_cons_zero, List.set_cons_succ]
  (refine wpH_pure 12 ?_ (oi := { dst := some 35, op := Op.move (Operand.tmp 2), type := 81, pos := "knot.go:155", after := #[], guard := none }) rfl (by kernel_rfl) (by kernel_rfl) (by kernel_rfl) (by rfl) hS (fun _ _ _ h => h) ?_ ?_; rotate_left; focus (intro w; go_simp; try with_reducible rfl))
  try simp only [Act.put, List.setIfInBounds_toArray, List.set_cons_zero, List.set_cons_succ]
  refine wpH_call 13 (oi := { dst := some 36, op := Op.call { callee := Callee.value (Operand.func 33), args := #[Operand.tmp 27, Operand.tmp 34, Operand.tmp 35], argTypes := #[70, 9, 81] }, type := 0, pos := "knot.go:155", after := #[{ on := 4, ground := Ground.data }, { on := 11, ground := Ground.data }, { on := 12, ground := Ground.data }], guard := none }) rfl (by kernel_rfl) (by rfl) (HIH.out _ HK0.out (HO1.out.keep (Below.refl _ _).drew)) ?_ ?_
  · (go_simp; try rfl)
  rintro e w' ⟨rfl, hbx, hO2⟩
  refine ⟨_, rfl, hS.trans hbx, ?_⟩
  replace hS := hS.trans hbx
  try simp only [Act.put, List.setIfInBounds_toArray, List.set_cons_zero, List.set_cons_succ]
  refine wpAnyH_done (by kernel_rfl) ?_ _
  go_wp2_with fail
  refine bodyPost_end (results_none rfl _ _ _) rfl ?_
  exact ⟨rfl, hb1.trans hS, hO2⟩

set_option maxRecDepth 100000 in
set_option maxHeartbeats 8000000 in
theorem walk_on (w0 : World) (t : Tr) (b : Nat) (ps : Ps) (hT : KAt w0 t (some b)) (hk2 : kindT t ≠ 2) (place : Bs) (l : List It) (hp : place.length + (pathT t).length ≤ 100000) (hl : l.length + (rp t).length ≤ 100000) (w : World) (hO : Out w0 w l)
    (hB : Blk w0 b (kn (kindT t) (pathT t) (valT t) (kidF fun i => sumT (kidsOf t i)) ps (textT t) (sumT t) (w64 (rp t).length)).toArray)
    (ih : ∀ (i : Nat) (m : List It) (w : World), i < 16 → m.length + (rp (kidsOf t i)).length ≤ 100000 → Out w0 w m → Calls Tryd.prog 33 #[ptV (ps i), .string ⟨List.toArray (place ++ [UInt8.ofNat i])⟩, vis w0] w (OutP w0 w (m ++ itemsT (place ++ [UInt8.ofNat i]) (kidsOf t i)) (.tuple #[]))) :
    Calls Tryd.prog 33 #[.pointer (some ⟨b, 0, none⟩), .string ⟨List.toArray (place)⟩, vis w0] w (OutP w0 w (l ++ itemsT place t) (.tuple #[])) := by
  have hne := hT.some'.1
  rw [items_on place t hne hk2, ← List.append_assoc]
  have hlen := rp_len t hne
  have hown := own_len place t
  have ho2 : (ownI place t).length = ownN (valT t) := by unfold ownI ownN; split <;> rfl
  have HV := Lib.hid (visit_any w0 t b hT place l hp (by omega) w hO)
  have hl1 : (l ++ ownI place t).length + cntT (kidsOf t) 16 ≤ 100000 := by rw [List.length_append]; omega
  have hbl := hB.lt
  have c0 := hB.kn.kind
  have k2 : (kindT t == 2) = false := by simpa using hk2
  have HB := Lib.hid hB
  have HIH := Lib.hid ih
  clear hne hlen hown ho2 hT hk2 hB ih hl hO
  generalize l ++ ownI place t = l1 at *
  generalize kindT t = kd at *
  generalize kidsOf t = f at *
  go_enter Tryd.func33, Tryd.ntmps33
  go_wp2_with fail
  refine HV.out.mono ?_
  rintro e w1 ⟨rfl, hb1, hO1⟩
  have hw1 := hO1.below
  have d0 := keepC hw1 c0
  have hB1 := HB.out.keep hw1
  have HO1 := Lib.hid hO1
  clear c0 hO1 HB hw1
  go_wp2_with (first
    | (refine wpList_knPtrs rfl (.tmp 39) rfl rfl hB1 ?_)
    | fail)
  clear hB1 d0
  go_loopw [41] (fun s41 wr => ∃ i : Nat, i ≤ 16 ∧ s41 = .int .i64 (i) ∧ Hid (Out w0 wr (l1 ++ kidI place f i)) ∧ Below w0.heap.size w wr) (fun s41 _ => 16 - (intOf s41).toNat)
  case atStart => exact ⟨0, by omega, rfl, Lib.hid (by rw [show kidI place f 0 = [] from rfl, List.append_nil]; exact HO1.out), hb1⟩
  case round =>
    obtain ⟨i, hi, rfl, HO, hb⟩ := hrel
    by_cases hlt : i < 16
    · have d1 : (i : Int) < 16 := by omega
      have hki := pk_index ps i hlt
      have hw8 : IntKind.u8.wrap (i : Int) = (i : Int) := by rw [IntKind.wrap_u8]; omega
      have hcl := cntT_le f (i + 1) 16 (by omega)
      rw [cntT] at hcl
      have hkl := kidI_len place f i
      have hnl : ¬ 9223372036854775807 < List.length place + 1 := by omega
      have hbA : Below wr.heap.size wr (wr.alloc (.cells #[.int .u8 (i : Int)] 5)) := Below.allocS (Below.refl _ _) _
      have HK := Lib.hid (HIH.out i (l1 ++ kidI place f i) _ hlt (by rw [List.length_append, hkl]; omega) (HO.out.keep hbA))
      have hwr : w0.heap.size ≤ wr.heap.size := Nat.le_of_lt HO.out.lt
      rw [List.append_assoc, ← kidI_succ] at HK
      clear hcl hkl hlt
      go_wp2_with fail
      refine HK.out.mono ?_
      rintro e w2 ⟨rfl, hb2, hO2⟩
      clear hki
      go_wp2_with fail
      exact ⟨⟨i + 1, by omega, by go_num, Lib.hid hO2, (hb.trans (hbA.mono hwr)).trans hb2⟩, by simp [intOf]; omega⟩
    · have e : i = 16 := by omega
      subst e
      go_wp2_with fail
      refine bodyPost_end (results_none rfl _ _ _) rfl ?_
      exact ⟨rfl, hb, HO.out⟩

theorem walk_any (w0 : World) : ∀ (t : Tr) (n : Nat), okT t n → n ≤ 400 → ∀ (p : Option Nat) (place : Bs) (l : List It) (w : World), KAt w0 t p → place.length + n ≤ 1000 → l.length + (rp t).length ≤ 100000 → Out w0 w l →
    Calls Tryd.prog 33 #[ptV p, .string ⟨List.toArray (place)⟩, vis w0] w (OutP w0 w (l ++ itemsT place t) (.tuple #[])) := by
  intro t
  induction t with
  | nil =>
    intro n ho hn p place l w hT hp hl hO
    obtain rfl := hT.isNil
    exact walk_nil w0 w place l hO
  | leaf p0 v0 =>
    intro n ho hn p place l w hT hp hl hO
    obtain ⟨b, rfl⟩ := hT.isKnot (by simp)
    obtain ⟨hne, ps, hps, _, hB⟩ := hT.open
    have hop := ho.2
    refine walk_on w0 (.leaf p0 v0) b ps hT (by simp [kindT]) place l (by simp only [pathT]; omega) hl w hO hB ?_
    intro i m W hi hm hW
    have hki := hps i hi
    rw [show kidsOf (.leaf p0 v0) i = .nil from rfl] at hki ⊢
    rw [hki.isNil]
    exact walk_nil w0 W _ m hW
  | ext p0 t1 ih =>
    intro n ho hn p place l w hT hp hl hO
    obtain ⟨b, rfl⟩ := hT.isKnot (by simp)
    have hop := ho.2.1
    have hrl : (rp (.ext p0 t1)).length = (rp t1).length := by simp [rp]
    refine walk_ext w0 p0 t1 b hT place l (by omega) (by omega) w hO ?_
    intro p' W hT' hW
    exact ih (n - p0.length) ho.2.2.2 (by omega) p' (place ++ p0) l W hT' (by rw [List.length_append]; omega) (by omega) hW
  | br v0 kids ih =>
    intro n ho hn p place l w hT hp hl hO
    obtain ⟨b, rfl⟩ := hT.isKnot (by simp)
    obtain ⟨hne, ps, hps, _, hB⟩ := hT.open
    refine walk_on w0 (.br v0 kids) b ps hT (by simp [kindT]) place l (by simp [pathT]; omega) hl w hO hB ?_
    intro i m W hi hm hW
    have hki := hps i hi
    rw [show kidsOf (.br v0 kids) i = kids i from rfl] at hki hm ⊢
    rcases ho i with h2 | ⟨_, h1, h3⟩
    · rw [h2] at hki ⊢
      rw [hki.isNil]
      exact walk_nil w0 W _ m hW
    · exact ih i (n - 1) h3 (by omega) (ps i) _ m W hki (by rw [List.length_append]; simp; omega) hm hW
end Go.Proofs.YtdaihimdkgmboaaDoor

/- Plain: what is behind a key, ranges of items, pages; what is put, one after the other. -/
set_option linter.unusedSimpArgs false
set_option linter.unusedVariables false
namespace Go.Proofs.YtdaihimdkgmboaaDoor
namespace Pl

/-! ### behind a key -/
def behF : Bs → Option Bs
  | [] => none
  | c :: r => match behF r with
    | some x => some (c :: x)
    | none => if c = 255 then none else some [c + 1]
theorem behF_snoc : ∀ (l : Bs) (c : UInt8), behF (l ++ [c]) = if c = 255 then behF l else some (l ++ [c + 1])
  | [], c => by simp [behF]
  | a :: r, c => by
    rw [List.cons_append, behF, behF_snoc r c]
    by_cases h : c = 255
    · rw [if_pos h, if_pos h, behF]
    · rw [if_neg h, if_neg h]; rfl
theorem succ_nat (c : UInt8) (h : c ≠ 255) : (c + 1).toNat = c.toNat + 1 := by
  have h1 := c.toNat_lt
  have h2 : c.toNat ≠ 255 := fun e => h (UInt8.toNat_inj.1 e)
  rw [UInt8.toNat_add]
  simp
  omega
/-- What behF tells. -/
def BehOk (a b : Bs) : Option Bs → Prop
  | none => ¬ a < b
  | some x => a < x ∧ x.length ≤ a.length ∧ (a < b ↔ ¬ b < x)
theorem behF_law : ∀ (a b : Bs), b.length ≤ a.length → BehOk a b (behF a)
  | [], b, h => by
    have : b = [] := List.length_eq_zero_iff.1 (by simpa using h)
    subst this
    simp [behF, BehOk]
  | c :: r, [], _ => by
    have ih := behF_law r [] (by simp)
    unfold behF
    cases hr : behF r with
    | some y =>
      rw [hr] at ih
      simp only [BehOk] at ih ⊢
      refine ⟨by rw [List.cons_lt_cons_iff]; exact .inr ⟨rfl, ih.1⟩, by simp; exact ih.2.1, by simp⟩
    | none =>
      simp only
      split
      · simp [BehOk]
      · rename_i hc
        simp only [BehOk]
        refine ⟨by rw [List.cons_lt_cons_iff]; left; rw [UInt8.lt_iff_toNat_lt, succ_nat c hc]; omega, by simp, by simp⟩
  | c :: r, d :: s, h => by
    have ih := behF_law r s (by simpa using h)
    unfold behF
    cases hr : behF r with
    | some y =>
      rw [hr] at ih
      simp only [BehOk] at ih ⊢
      refine ⟨by rw [List.cons_lt_cons_iff]; exact .inr ⟨rfl, ih.1⟩, by simp; exact ih.2.1, ?_⟩
      rw [List.cons_lt_cons_iff, List.cons_lt_cons_iff, ih.2.2]
      simp only [UInt8.lt_iff_toNat_lt, ← UInt8.toNat_inj]
      constructor
      · rintro (h1 | ⟨h1, h2⟩)
        · rintro (h3 | ⟨h3, _⟩) <;> omega
        · rintro (h3 | ⟨_, h4⟩)
          · omega
          · exact h2 h4
      · intro h1
        by_cases h2 : c.toNat < d.toNat
        · exact .inl h2
        · have h3 : c.toNat = d.toNat := by
            rcases Nat.lt_or_ge d.toNat c.toNat with h4 | h4
            · exact absurd (.inl h4) h1
            · omega
          exact .inr ⟨h3, fun h4 => h1 (.inr ⟨h3.symm, h4⟩)⟩
    | none =>
      rw [hr] at ih
      simp only [BehOk] at ih
      simp only
      have hd := d.toNat_lt
      split
      · rename_i hc
        simp only [BehOk]
        rw [List.cons_lt_cons_iff]
        rintro (h1 | ⟨_, h1⟩)
        · rw [hc, UInt8.lt_iff_toNat_lt] at h1
          have : (255 : UInt8).toNat = 255 := rfl
          omega
        · exact ih h1
      · rename_i hc
        have hs := succ_nat c hc
        simp only [BehOk]
        refine ⟨by rw [List.cons_lt_cons_iff]; left; rw [UInt8.lt_iff_toNat_lt, hs]; omega, by simp, ?_⟩
        rw [List.cons_lt_cons_iff, List.cons_lt_cons_iff]
        simp only [UInt8.lt_iff_toNat_lt, ← UInt8.toNat_inj, hs]
        constructor
        · rintro (h1 | ⟨_, h1⟩)
          · rintro (h3 | ⟨_, h3⟩)
            · omega
            · simp at h3
          · exact absurd h1 ih
        · intro h1
          left
          rcases Nat.lt_or_ge c.toNat d.toNat with h4 | h4
          · exact h4
          · exact absurd (.inl (by omega)) h1
theorem lt_zero : ∀ (a b : Bs), a < b ↔ ¬ b < a ++ [0]
  | [], [] => by simp
  | [], d :: s => by
    simp only [List.nil_append, List.cons_lt_cons_iff, UInt8.lt_iff_toNat_lt]
    simp
  | c :: r, [] => by simp
  | c :: r, d :: s => by
    rw [List.cons_append, List.cons_lt_cons_iff, List.cons_lt_cons_iff, lt_zero r s]
    simp only [UInt8.lt_iff_toNat_lt, ← UInt8.toNat_inj]
    constructor
    · rintro (h1 | ⟨h1, h2⟩)
      · rintro (h3 | ⟨h3, _⟩) <;> omega
      · rintro (h3 | ⟨_, h4⟩)
        · omega
        · exact h2 h4
    · intro h1
      by_cases h2 : c.toNat < d.toNat
      · exact .inl h2
      · have h3 : c.toNat = d.toNat := by
          rcases Nat.lt_or_ge d.toNat c.toNat with h4 | h4
          · exact absurd (.inl h4) h1
          · omega
        exact .inr ⟨h3, fun h4 => h1 (.inr ⟨h3.symm, h4⟩)⟩
/-- The least key above a key. -/
def behP (k : Bs) : Bs := if 8 < k.length then [] else if k.length < 8 then k ++ [0] else (behF k).getD []
theorem behP_law (a b : Bs) (ha : a.length ≤ 8) (hb : b.length ≤ 8) :
    (behP a = [] → ¬ a < b) ∧ (behP a ≠ [] → a < behP a ∧ (behP a).length ≤ 8 ∧ (a < b ↔ ¬ b < behP a)) := by
  unfold behP
  rw [if_neg (by omega)]
  by_cases h : a.length < 8
  · rw [if_pos h]
    refine ⟨fun e => by simp at e, fun _ => ⟨?_, by simp; omega, lt_zero a b⟩⟩
    have := (lt_zero a (a ++ [0])).2 (List.lt_irrefl _)
    exact this
  · rw [if_neg h]
    have hl := behF_law a b (by omega)
    cases hf : behF a with
    | none =>
      rw [hf] at hl
      exact ⟨fun _ => hl, fun e => absurd rfl e⟩
    | some x =>
      rw [hf] at hl
      simp only [BehOk] at hl
      refine ⟨fun e => ?_, fun _ => ⟨hl.1, by simp; omega, hl.2.2⟩⟩
      simp at e
      subst e
      exact absurd hl.1 (by simp)

/-! ### ranges -/
def inR (f e k : Bs) : Bool := !decide (k < f) && (e.isEmpty || decide (k < e))
def wI (f e : Bs) : List It → List It
  | [] => []
  | x :: r => if x.1 < f then wI f e r else if e ≠ [] ∧ ¬ x.1 < e then [] else x :: wI f e r
def allI (f e : Bs) (l : List It) : List It := l.filter fun x => inR f e x.1
theorem lt_of_not {a b : Bs} (h : ¬ a < b) (hn : a ≠ b) : b < a := by
  rcases Classical.em (b < a) with h1 | h1
  · exact h1
  · exact absurd (List.le_antisymm (List.not_lt.1 h1) (List.not_lt.1 h)) hn
theorem ge_lt {a b c : Bs} (h : ¬ b < a) (h2 : b < c) : a < c := by
  by_cases e : a = b
  · rw [e]; exact h2
  · exact List.lt_trans (lt_of_not h (fun x => e x.symm)) h2
theorem lt_ge {a b c : Bs} (h : a < b) (h2 : ¬ c < b) : a < c := by
  by_cases e : c = b
  · rw [e]; exact h
  · exact List.lt_trans h (lt_of_not h2 e)
theorem wI_all (f e : Bs) : ∀ (l : List It), Rise l → wI f e l = allI f e l
  | [], _ => rfl
  | x :: r, h => by
    unfold Rise at h
    rw [List.pairwise_cons] at h
    have ih := wI_all f e r h.2
    unfold wI allI
    rw [List.filter_cons]
    by_cases h1 : x.1 < f
    · rw [if_pos h1, if_neg (by simp [inR, h1]), ih]; rfl
    · rw [if_neg h1]
      by_cases h2 : e ≠ [] ∧ ¬ x.1 < e
      · rw [if_pos h2, if_neg (by simp [inR, h2.1, h2.2])]
        symm
        rw [List.filter_eq_nil_iff]
        intro y hy
        have h3 := h.1 y hy
        have h4 : ¬ y.1 < e := fun h5 => h2.2 (List.lt_trans h3 h5)
        simp [inR, h2.1, h4]
      · rw [if_neg h2, if_pos (by
          simp only [ne_eq, not_and, Classical.not_not] at h2
          by_cases h3 : e = []
          · simp [inR, h1, h3]
          · simp [inR, h1, h2 h3]), ih]
        rfl
def pageL (f e : Bs) (m : Nat) (l : List It) : List It := (allI f e l).take m
def pageN (f e : Bs) (m : Nat) (l : List It) : Bs := if (allI f e l).length ≤ m then [] else behP ((allI f e l).getD (m - 1) ([], [])).1
theorem rise_filter (p : It → Bool) {l : List It} (h : Rise l) : Rise (l.filter p) := by
  unfold Rise at h ⊢
  exact h.filter p
theorem rise_past : ∀ (m : Nat) (a : List It), Rise a → m < a.length → a.filter (fun x => decide ((a.getD m ([], [])).1 < x.1)) = a.drop (m + 1)
  | _, [], _, h => by simp at h
  | 0, x :: r, h, _ => by
    unfold Rise at h
    rw [List.pairwise_cons] at h
    simp only [List.getD_cons_zero, List.filter_cons, List.lt_irrefl, decide_false, List.drop_succ_cons, List.drop_zero]
    rw [if_neg (by simp), List.filter_eq_self]
    intro y hy
    simpa using h.1 y hy
  | m + 1, x :: r, h, hm => by
    unfold Rise at h
    rw [List.pairwise_cons] at h
    have hm' : m < r.length := by simpa using hm
    have hx : x.1 < (r.getD m ([], [])).1 := h.1 _ (by rw [List.getD_eq_getElem?_getD, List.getElem?_eq_getElem hm']; exact List.getElem_mem hm')
    rw [List.getD_cons_succ, List.filter_cons, if_neg (by simpa using fun h2 => List.lt_irrefl _ (List.lt_trans hx h2)), List.drop_succ_cons]
    exact rise_past m r h.2 hm'
theorem page_next (f e : Bs) (m : Nat) (l : List It) (h : Rise l) (hk : ∀ x ∈ l, x.1.length ≤ 8) (h1 : 1 ≤ m) (hm : m < (allI f e l).length) :
    pageN f e m l ≠ [] ∧ allI (pageN f e m l) e l = (allI f e l).drop m := by
  have hr : Rise (allI f e l) := rise_filter _ h
  have hp := rise_past (m - 1) _ hr (by omega)
  rw [show m - 1 + 1 = m from by omega] at hp
  have hin : ∀ i, i < (allI f e l).length → (allI f e l).getD i ([], []) ∈ allI f e l := fun i hi => by
    rw [List.getD_eq_getElem?_getD, List.getElem?_eq_getElem hi]; exact List.getElem_mem hi
  unfold pageN
  rw [if_neg (by omega)]
  have hkm := hin (m - 1) (by omega)
  have hkn := hin m hm
  generalize hkk : (allI f e l).getD (m - 1) ([], []) = k at *
  generalize hnn : (allI f e l).getD m ([], []) = n at *
  have hlt : k.1 < n.1 := by
    have : n ∈ (allI f e l).drop m := by
      rw [← hnn, List.getD_eq_getElem?_getD, List.getElem?_eq_getElem hm, List.mem_iff_getElem]
      exact ⟨0, by simp; omega, by simp⟩
    rw [← hp] at this
    simpa using (List.mem_filter.1 this).2
  have hkl : k ∈ l := (List.mem_filter.1 hkm).1
  have hnl : n ∈ l := (List.mem_filter.1 hkn).1
  have hkr := (List.mem_filter.1 hkm).2
  have hne : behP k.1 ≠ [] := fun e => (behP_law k.1 n.1 (hk k hkl) (hk n hnl)).1 e hlt
  refine ⟨hne, ?_⟩
  rw [← hp]
  unfold allI
  rw [List.filter_filter]
  refine List.filter_congr fun x hx => ?_
  have hl := ((behP_law k.1 x.1 (hk k hkl) (hk x hx)).2 hne).2.2
  have hf : ¬ k.1 < f := by
    simp [inR] at hkr; simpa using hkr.1
  unfold inR
  by_cases h2 : k.1 < x.1
  · have h3 := hl.1 h2
    have h4 : ¬ x.1 < f := fun h5 => hf (List.lt_trans h2 h5)
    simp [h2, h3, h4]
  · have h3 : x.1 < behP k.1 := Classical.byContradiction fun h4 => h2 (hl.2 h4)
    simp [h2, h3]
theorem split_at (c : Bs) : ∀ (l : List It), Rise l → l = l.filter (fun x => decide (x.1 < c)) ++ l.filter (fun x => !decide (x.1 < c))
  | [], _ => rfl
  | x :: r, h => by
    unfold Rise at h
    rw [List.pairwise_cons] at h
    have ih := split_at c r h.2
    by_cases h1 : x.1 < c
    · rw [List.filter_cons, if_pos (by simpa using h1), List.filter_cons, if_neg (by simp [h1]), List.cons_append, ← ih]
    · have h2 : r.filter (fun x => decide (x.1 < c)) = [] := by
        rw [List.filter_eq_nil_iff]
        intro y hy
        simpa using fun h3 => h1 (List.lt_trans (h.1 y hy) h3)
      rw [h2] at ih
      rw [List.filter_cons, if_neg (by simpa using h1), h2, List.filter_cons, if_pos (by simp [h1]), List.nil_append]
      rw [List.nil_append] at ih
      rw [← ih]
theorem parts (f c e : Bs) (l : List It) (h : Rise l) (h1 : ¬ c < f) (h2 : e = [] ∨ ¬ e < c) (hc : c ≠ []) : allI f e l = allI f c l ++ allI c e l := by
  unfold allI
  conv => lhs; rw [split_at c l h]
  rw [List.filter_append, List.filter_filter, List.filter_filter]
  congr 1
  · refine List.filter_congr fun x _ => ?_
    unfold inR
    by_cases h3 : x.1 < c
    · have h4 : e.isEmpty = true ∨ x.1 < e := h2.imp (fun h => by simp [h]) (fun h => lt_ge h3 h)
      rcases h4 with h4 | h4 <;> simp [h3, h4]
    · simp [h3, hc]
  · refine List.filter_congr fun x _ => ?_
    unfold inR
    by_cases h3 : x.1 < c
    · simp [h3]
    · have h4 : ¬ x.1 < f := fun h5 => h3 (lt_ge h5 h1)
      simp [h3, h4]

/-! ### what is put, one after the other -/
def keyB (k : Bs) : Bool := decide (1 ≤ k.length) && decide (k.length ≤ 8)
def hasK (k : Bs) (l : List It) : Bool := l.any fun x => x.1 == k
def putE (l : List It) (k v : Bs) : Int := if keyB k = false then 1 else if v.length < 1 ∨ 32 < v.length ∨ (hasK k l = false ∧ 1024 ≤ l.length) then 2 else 0
def ofI : List It → List It → List It × Int
  | acc, [] => (acc, 0)
  | acc, x :: r => if putE acc x.1 x.2 = 0 then ofI (insI x.1 x.2 acc) r else ([], putE acc x.1 x.2)
/-- Items that a trie may have. -/
structure GoodI (l : List It) : Prop where
  rise : Rise l
  keys : ∀ x ∈ l, x.1.length ≤ 8
  many : l.length ≤ 1024
theorem GoodI.nil : GoodI [] := ⟨by simp [Rise], by simp, by simp⟩
theorem insI_has : ∀ (k v : Bs) (l : List It), Rise l → hasK k l = true → (insI k v l).length = l.length
  | k, v, [], _, h => by simp [hasK] at h
  | k, v, x :: r, hr, h => by
    unfold Rise at hr
    rw [List.pairwise_cons] at hr
    unfold insI
    by_cases h1 : x.1 < k
    · rw [if_pos h1]
      have h2 : hasK k r = true := by
        unfold hasK at h ⊢
        rw [List.any_cons] at h
        have : (x.1 == k) = false := by simpa using fun e => List.lt_irrefl _ (e ▸ h1)
        simpa [this] using h
      simp [insI_has k v r hr.2 h2]
    · rw [if_neg h1]
      by_cases h2 : x.1 = k
      · rw [if_pos h2]; simp
      · exfalso
        have h3 := lt_of_not h1 h2
        unfold hasK at h
        rw [List.any_eq_true] at h
        obtain ⟨y, hy, e⟩ := h
        have e' : y.1 = k := by simpa using e
        rcases List.mem_cons.1 hy with rfl | hy
        · exact h2 e'
        · exact List.lt_irrefl _ (List.lt_trans h3 (e' ▸ hr.1 y hy))
theorem GoodI.put {l : List It} (h : GoodI l) (k v : Bs) (he : putE l k v = 0) : GoodI (insI k v l) ∧ k.length ≤ 8 ∧ v ≠ [] ∧ k ≠ [] := by
  unfold putE at he
  split at he
  · cases he
  · rename_i hk
    split at he
    · cases he
    · rename_i hv
      simp only [keyB, Bool.not_eq_false, Bool.and_eq_true, decide_eq_true_eq] at hk
      simp only [not_or, not_and] at hv
      refine ⟨⟨insI_rise _ _ _ h.rise, fun x hx => ?_, ?_⟩, hk.2, fun e => by rw [e] at hv; simp at hv, fun e => by rw [e] at hk; simp at hk⟩
      · rcases (insI_mem k v l h.rise x).1 hx with h1 | h1
        · rw [h1]; exact hk.2
        · exact h.keys x h1.1
      · cases hh : hasK k l with
        | true => rw [insI_has k v l h.rise hh]; exact h.many
        | false =>
          have h1 := hv.2.2 hh
          have h2 := insI_len k v l
          have h3 := h.many
          omega
theorem ofI_good : ∀ (r acc : List It), GoodI acc → GoodI (ofI acc r).1
  | [], acc, h => h
  | x :: r, acc, h => by
    unfold ofI
    split
    · rename_i he
      exact ofI_good r _ (h.put _ _ he).1
    · exact GoodI.nil
theorem ofI_len : ∀ (r acc : List It), (ofI acc r).1.length ≤ acc.length + r.length
  | [], acc => by simp [ofI]
  | x :: r, acc => by
    unfold ofI
    split
    · have h1 := ofI_len r (insI x.1 x.2 acc)
      have h2 := insI_len x.1 x.2 acc
      simp; omega
    · simp
theorem look_has {t : Tr} {L : List It} (h : RepT t L) (k : Bs) : look t (ofP k) = [] ↔ hasK k L = false := by
  have hm := rp_mem t 16 h.ok (ofP k)
  rw [h.items] at hm
  constructor
  · intro e
    cases hh : hasK k L with
    | false => rfl
    | true =>
      exfalso
      unfold hasK at hh
      rw [List.any_eq_true] at hh
      obtain ⟨y, hy, e2⟩ := hh
      have e' : y.1 = k := by simpa using e2
      have := (hm y.2).1 (by unfold pathsI; rw [List.mem_map]; exact ⟨y, hy, by rw [e']⟩)
      rw [e] at this
      exact this.2 this.1.symm
  · intro hh
    refine Classical.byContradiction fun hn => ?_
    have := (hm _).2 ⟨rfl, hn⟩
    unfold pathsI at this
    rw [List.mem_map] at this
    obtain ⟨y, hy, e⟩ := this
    have e1 : y.1 = k := ofP_inj (by injection e)
    have : hasK k L = true := by
      unfold hasK
      rw [List.any_eq_true]
      exact ⟨y, hy, by simpa using e1⟩
    rw [hh] at this
    cases this
end Pl
end Go.Proofs.YtdaihimdkgmboaaDoor

/- Walks of layer 10: tries: items, how many, put. -/
set_option linter.unusedSimpArgs false
set_option linter.unusedVariables false
namespace Go.Proofs.YtdaihimdkgmboaaDoor
open Go.RowKit Pl

/-- A trie lies at a pointer. -/
def TAt (w : World) (pt : Nat) (t : Tr) : Prop := ∃ kp, Blk w pt #[ptV kp] ∧ KAt w t kp
theorem TAt.keep {W w : World} (hb : Below W.heap.size W w) {pt : Nat} {t : Tr} (h : TAt W pt t) : TAt w pt t := by
  obtain ⟨kp, h1, h2⟩ := h
  exact ⟨kp, h1.keep hb, h2.keep hb⟩
theorem itemsT_out {t : Tr} {L : List It} (h : RepT t L) : itemsT [] t = L := by
  rw [← h.out]
  simp [itemsT]

def RowP (B : Nat) (w : World) (l : List It) (e : Ending) (w' : World) : Prop := ∃ v, e = .returned v ∧ IRow w' B v l ∧ Below B w w'
set_option maxRecDepth 100000 in
set_option maxHeartbeats 4000000 in
theorem titems_any (pt : Nat) (t : Tr) (L : List It) (hR : RepT t L) (hL : L.length ≤ 100000) (w : World) (hT : TAt w pt t) :
    Calls Tryd.prog 19 #[.pointer (some ⟨pt, 0, none⟩)] w (RowP w.heap.size w L) := by
  obtain ⟨kp, hB, hK⟩ := hT
  have hrl : (rp t).length ≤ 100000 := by rw [hR.len]; exact hL
  have hb0 : Below w.heap.size w (w.alloc (.cells #[.slice none 0 0] 25)) := Below.allocS (Below.refl _ _) _
  have hO : Out w (w.alloc (.cells #[.slice none 0 0] 25)) [] :=
    ⟨hb0, ⟨.slice none 0 0, by simp, IRow.nil _ _⟩, by simp, by simp⟩
  have HW := Lib.hid (walk_any w t 16 hR.ok (by omega) kp [] [] _ hK (by simp) (by simpa using hrl) hO)
  rw [itemsT_out hR, List.nil_append] at HW
  have c0 : (w.alloc (.cells #[.slice none 0 0] 25)).cell? ⟨pt, 0, none⟩ = some (ptV kp) := keepC hb0 (hB.cell 0)
  have hsz := hO.lt
  clear hB hK hR hO hrl hb0
  go_enter Tryd.func19, Tryd.ntmps19
  go_wp2_with fail
  refine HW.out.mono ?_
  rintro e w1 ⟨rfl, hb1, hO1⟩
  obtain ⟨v, e1, r1⟩ := hO1.row
  obtain ⟨va, vc, rfl⟩ := r1.form
  have hb2 := hO1.below
  have hr2 : IRow w1 w.heap.size (.slice va L.length vc) L := ⟨r1.1, r1.2.imp id (fun ⟨g, cap, cur, h1, h2, h3⟩ => ⟨g, cap, cur, h1, Nat.le_of_lt h2, h3⟩)⟩
  have HR2 := Lib.hid hr2
  clear hO1 r1 hr2 c0 hsz
  go_wp2_with fail
  go_ret
  exact ⟨_, rfl, HR2.out, hb2⟩

set_option maxRecDepth 100000 in
theorem tlen_any (pt : Nat) (t : Tr) (hL : (rp t).length ≤ 100000) (w : World) (hT : TAt w pt t) :
    Calls Tryd.prog 61 #[.pointer (some ⟨pt, 0, none⟩)] w fun e w' => e = .returned (.int .i64 ((rp t).length)) ∧ w = w' := by
  obtain ⟨kp, hB, hK⟩ := hT
  have c0 := hB.cell 0
  cases kp with
  | none =>
    obtain rfl := hK.none'
    rw [show (rp .nil).length = 0 from rfl]
    rw [ptV_none] at c0
    have c1 : w.cell? ⟨pt, 0, none⟩ = some (.pointer none) := c0
    clear hB hK c0 hL
    go_enter Tryd.func61, Tryd.ntmps61
    go_wp2_with fail
    go_ret
    exact ⟨rfl, rfl⟩
  | some b =>
    obtain ⟨_, ps, _, ⟨_, _, _, _, _, d5, _⟩, _⟩ := hK.open
    rw [w64_small _ (by omega)] at d5
    have c1 : w.cell? ⟨pt, 0, none⟩ = some (.pointer (some ⟨b, 0, none⟩)) := c0
    clear hB hK c0
    generalize (rp t).length = n at *
    go_enter Tryd.func61, Tryd.ntmps61
    go_wp2_with fail
    go_ret
    exact ⟨rfl, rfl⟩
theorem tkeyed_any (k : Bs) (hk : k.length ≤ 9223372036854775807) (w : World) : Calls Tryd.prog 59 #[.string ⟨List.toArray (k)⟩] w fun e w' => e = .returned (.bool (keyB k)) ∧ w = w' := by
  generalize hz : keyB k = z
  have HZ := Lib.hid hz
  clear hz
  cases k with
  | nil =>
    have HE : Hid (z = false) := Lib.hid (by rw [← HZ.out]; rfl)
    go_enter Tryd.func59, Tryd.ntmps59
    go_wp2_with fail
    go_ret
    exact ⟨by rw [HE.out]; rfl, rfl⟩
  | cons a r =>
    by_cases h : (a :: r).length ≤ 8
    · have HE : Hid (z = true) := Lib.hid (by rw [← HZ.out]; unfold keyB; simp at h ⊢; omega)
      have d : decide (((a :: r).length : Int) ≤ 8) = true := by simp only [decide_eq_true_eq]; omega
      clear HZ h
      generalize hg : (a :: r) = k at *
      have he : k.isEmpty = false := by rw [← hg]; rfl
      clear hg
      go_enter Tryd.func59, Tryd.ntmps59
      go_wp2_with fail
      go_ret
      exact ⟨by rw [HE.out]; rfl, rfl⟩
    · have HE : Hid (z = false) := Lib.hid (by rw [← HZ.out]; unfold keyB; simp at h ⊢; omega)
      have d : decide (((a :: r).length : Int) ≤ 8) = false := by simp only [decide_eq_false_iff_not]; omega
      clear HZ h
      generalize hg : (a :: r) = k at *
      have he : k.isEmpty = false := by rw [← hg]; rfl
      clear hg
      go_enter Tryd.func59, Tryd.ntmps59
      go_wp2_with fail
      go_ret
      exact ⟨by rw [HE.out]; rfl, rfl⟩
end Go.Proofs.YtdaihimdkgmboaaDoor
