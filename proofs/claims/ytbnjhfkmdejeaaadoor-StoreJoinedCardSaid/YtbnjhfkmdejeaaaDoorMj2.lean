/- Node, Eq, Nibble, NodeC, Check, Pack, Enc. -/
import Derived.Test.YtbnjhfkmdejeaaaDoorMg1
import Derived.Test.YtbnjhfkmdejeaaaDoorMg2
import Derived.Deep.MidRow
import Derived.ChangeKeysEq
import Derived.Test.YtbnjhfkmdejeaaaDoorMg15
import Derived.Test.YtbnjhfkmdejeaaaDoorMg3
set_option linter.unnecessarySimpa false

/- Layer 8: a node as a value; the sums that it names. -/
set_option linter.unusedSimpArgs false
set_option linter.unusedVariables false
namespace Go.Proofs.YtbnjhfkmdejeaaaDoor
open Go.RowKit Pl

/-- The cells of the kids, of a node. -/
def ka (kid : Nat → Bs) : List Value := (kidL kid).map fun s => .string ⟨List.toArray (s)⟩
def nd (kind : Int) (path val : Bs) (kid : Nat → Bs) : List Value := .int .i64 (kind) :: .string ⟨List.toArray (path)⟩ :: .string ⟨List.toArray (val)⟩ :: ka kid
theorem ka_len (kid : Nat → Bs) : (ka kid).length = 16 := by simp [ka, kidL]
theorem nd_len (kind : Int) (path val : Bs) (kid : Nat → Bs) : (nd kind path val kid).length = 19 := by simp [nd, ka_len]
theorem ka_at (kid : Nat → Bs) (k : Nat) (hk : k < 16) : (ka kid)[k]? = some (.string ⟨List.toArray (kid k)⟩) := by
  simp [ka, kidL, hk]
theorem nd_at (kind : Int) (path val : Bs) (kid : Nat → Bs) (k : Nat) (hk : k < 16) : (nd kind path val kid)[3 + k]? = some (.string ⟨List.toArray (kid k)⟩) := by
  have : (nd kind path val kid)[3 + k]? = (ka kid)[k]? := by
    rw [Nat.add_comm]; rfl
  rw [this, ka_at kid k hk]
@[go_sem, simp] theorem nd0 (kind : Int) (path val : Bs) (kid : Nat → Bs) : (nd kind path val kid).toArray[0]? = some (.int .i64 (kind)) := rfl
@[go_sem, simp] theorem nd1 (kind : Int) (path val : Bs) (kid : Nat → Bs) : (nd kind path val kid).toArray[1]? = some (.string ⟨List.toArray (path)⟩) := rfl
@[go_sem, simp] theorem nd2 (kind : Int) (path val : Bs) (kid : Nat → Bs) : (nd kind path val kid).toArray[2]? = some (.string ⟨List.toArray (val)⟩) := rfl
@[go_sem, simp] theorem nd3 (kind : Int) (path val : Bs) (kid : Nat → Bs) : (nd kind path val kid).toArray[3]? = some (.string ⟨List.toArray (kid 0)⟩) := rfl
@[go_sem, simp] theorem nd0g (kind : Int) (path val : Bs) (kid : Nat → Bs) (h : 0 < (nd kind path val kid).length) : (nd kind path val kid)[0]'h = .int .i64 (kind) := rfl
@[go_sem, simp] theorem nd1g (kind : Int) (path val : Bs) (kid : Nat → Bs) (h : 1 < (nd kind path val kid).length) : (nd kind path val kid)[1]'h = .string ⟨List.toArray (path)⟩ := rfl
@[go_sem, simp] theorem nd2g (kind : Int) (path val : Bs) (kid : Nat → Bs) (h : 2 < (nd kind path val kid).length) : (nd kind path val kid)[2]'h = .string ⟨List.toArray (val)⟩ := rfl
@[go_sem, simp] theorem nd3g (kind : Int) (path val : Bs) (kid : Nat → Bs) (h : 3 < (nd kind path val kid).length) : (nd kind path val kid)[3]'h = .string ⟨List.toArray (kid 0)⟩ := rfl
@[go_sem, simp] theorem ka_size (kid : Nat → Bs) : (ka kid).toArray.size = 16 := by simp [ka_len]
@[go_sem, simp] theorem nd_size (kind : Int) (path val : Bs) (kid : Nat → Bs) : (nd kind path val kid).toArray.size = 19 := by simp [nd_len]
@[go_sem, simp] theorem ka_size' (kid : Nat → Bs) : (ka kid).length = 16 := ka_len kid
@[go_sem, simp] theorem nd_size' (kind : Int) (path val : Bs) (kid : Nat → Bs) : (nd kind path val kid).length = 19 := nd_len kind path val kid

theorem nd_range {w : World} {b : Nat} {kind : Int} {path val : Bs} {kid : Nat → Bs} (h : Blk w b (nd kind path val kid).toArray) : w.rangeAt b 0 (nd kind path val kid) := by
  intro j v hv
  rw [Nat.zero_add, h.cell j]
  simpa using hv
theorem ka_range {w : World} {b : Nat} {kind : Int} {path val : Bs} {kid : Nat → Bs} (h : Blk w b (nd kind path val kid).toArray) : w.rangeAt b 3 (ka kid) := by
  intro j v hv
  rw [h.cell (3 + j)]
  have : (nd kind path val kid)[3 + j]? = (ka kid)[j]? := by
    rw [Nat.add_comm]; rfl
  simpa [this] using hv
theorem blk_kid {w : World} {b : Nat} {kind : Int} {path val : Bs} {kid : Nat → Bs} (h : Blk w b (nd kind path val kid).toArray) (k : Nat) (hk : k < 16) : w.cell? ⟨b, 3 + k, none⟩ = some (.string ⟨List.toArray (kid k)⟩) := by
  rw [h.cell]
  simpa using nd_at kind path val kid k hk
theorem nd_info : (Tryd.prog.info? 99).map (·.size) = some 19 := by kernel_rfl
theorem ka_info : (Tryd.prog.info? 97).map (·.size) = some 16 := by kernel_rfl

section
variable {ops : Array Oper} {rest : List Oper} {op : Oper} {a : Act} {w : World} {Q : Exit → Act → World → Prop}
/-- The whole node is loaded. -/
theorem wpList_node (hgd : op.guard = none) (x : Operand) (ho : op.op = .load 99 x) {b : Nat} (hx : a.eval x = .pointer (some ⟨b, 0, none⟩)) {kind : Int} {path val : Bs} {kid : Nat → Bs} (hB : Blk w b (nd kind path val kid).toArray)
    (h : wpList Tryd.prog ops Q rest (a.put op.dst (.agg (nd kind path val kid).toArray)) w) : wpList Tryd.prog ops Q (op :: rest) a w :=
  wpList_load_mid hgd 99 x ho b 0 hx (nd kind path val kid) _ (nd_range hB) Tryd.underlying99 rfl (by rw [nd_len]; exact nd_info) h
/-- Its kids are. -/
theorem wpList_kidsArr (hgd : op.guard = none) (x : Operand) (ho : op.op = .load 97 x) {b : Nat} (hx : a.eval x = .pointer (some ⟨b, 3, none⟩)) {kind : Int} {path val : Bs} {kid : Nat → Bs} (hB : Blk w b (nd kind path val kid).toArray)
    (h : wpList Tryd.prog ops Q rest (a.put op.dst (.agg (ka kid).toArray)) w) : wpList Tryd.prog ops Q (op :: rest) a w :=
  wpList_load_mid hgd 97 x ho b 3 hx (ka kid) _ (ka_range hB) Tryd.underlying97 rfl (by rw [ka_len]; exact ka_info) h
end

theorem kid_index (kid : Nat → Bs) (k : Nat) (hk : k < 16) (w : World) : (Instr.index 97 (.agg (ka kid).toArray) (.int .i64 (k : Int))).run Tryd.prog w = .ok (.string ⟨List.toArray (kid k)⟩) w := by
  obtain ⟨i0, hi, _, hs, _⟩ := info_parts infoStr
  have hp : (Tryd.prog).plainKey 9 = true := by simp [Program.plainKey, Tryd.underlying9]
  have hpart := run_part_plain (P := Tryd.prog) w hp (off := k) (xs := (ka kid).toArray) (by simpa using ka_at kid k hk)
  have hsz : (Go.sizeOf 9).run Tryd.prog w = .ok 1 w := by simp [Go.sizeOf, typeInfo, hi, hs]
  have hk' : (0 : Int) ≤ (k : Int) ∧ (k : Int) < 16 := by omega
  simp [Instr.index, asIntOf, run_underlying Tryd.underlying97, hk', hsz, hpart, Sem.run_bind]
  intro h
  omega

set_option maxRecDepth 100000 in
set_option maxHeartbeats 1000000 in
theorem kids_any (kind : Int) (path val : Bs) (kid : Nat → Bs) (w : World) :
    Calls Tryd.prog 85 #[.agg (nd kind path val kid).toArray] w fun e w' => ∃ (x : Option Addr) (cap : Nat), e = .returned (.slice x (kidsF kid).length cap) ∧ SRow w' w.heap.size (.slice x (kidsF kid).length cap) (kidsF kid) ∧ Below w.heap.size w w' := by
  have hB := Blk.new w (nd kind path val kid).toArray 99
  go_enter Tryd.func85, Tryd.ntmps85
  go_wp2_with (refine wpList_kidsArr rfl (.tmp 6) rfl rfl hB ?_)
  go_loopw [3, 8] (fun s3 s8 wr => ∃ k : Nat, k ≤ 16 ∧ s8 = .int .i64 k ∧ SRow wr w.heap.size s3 (kidsTo kid k) ∧ Below w.heap.size w wr) (fun _ s8 _ => 16 - (intOf s8).toNat)
  case atStart => exact ⟨0, by omega, rfl, SRow.nil _ _, by (repeat (first | exact Below.refl _ _ | assumption | apply Below.drew | apply below_drewN | apply Below.allocS | (refine Below.setCell ?_ (by simp <;> omega) _) | (refine Below.alloc ?_ (by simp <;> omega) _) | (refine Below.trans ?_ (Below.mono (by assumption) (by simp <;> omega)))))⟩
  case round =>
    obtain ⟨k, hk, rfl, hS, hb⟩ := hrel
    rename_i wr
    clear hB
    by_cases hlt : k < 16
    · have hki := kid_index kid k hlt
      have hlt' : (k : Int) < 16 := by omega
      have hkl := kidsTo_len kid k
      have HKS := Lib.hid (kidsTo_succ kid k)
      by_cases he : kid k = []
      · have HK : Hid (kidsTo kid (k + 1) = kidsTo kid k) := Lib.hid (by rw [HKS.out, if_pos he]; simp)
        rw [he] at hki
        have HE := Lib.hid he
        clear he
        go_wp2_with fail
        exact ⟨⟨k + 1, by omega, by go_num, by rw [HK.out]; exact hS, hb⟩, by simp [intOf]; omega⟩
      · have HK : Hid (kidsTo kid (k + 1) = kidsTo kid k ++ [kid k]) := Lib.hid (by rw [HKS.out, if_neg he])
        have he1 : (kid k).isEmpty = false := by simpa using he
        go_wp2_with (at_builtin; refine wpList_appS rfl (.tmp 13) (.tmp 15) rfl w.heap.size _ (kidsTo kid k) rfl (hS.alloc _) wr.heap.size 0 1 1 [kid k] rfl rfl (ssrc1 _ _ _) (by omega) (by have := hb.size; simp; omega) ?_; rintro v' w2 hS2 hb2)
        exact ⟨⟨k + 1, by omega, by go_num, by rw [HK.out]; exact hS2, (Below.allocS hb _).trans hb2⟩, by simp [intOf]; omega⟩
    · have hke : k = 16 := by omega
      subst hke
      go_wp2_with fail
      go_ret
      obtain ⟨x, cap, hv⟩ := hS.form
      rw [hv] at hS
      exact ⟨x, cap, congrArg Ending.returned hv, hS, hb⟩

end Go.Proofs.YtbnjhfkmdejeaaaDoor

/- '==' on arrays of texts. -/
set_option linter.unusedSimpArgs false
set_option linter.unusedVariables false
namespace Go.Proofs.YtbnjhfkmdejeaaaDoor
open Go.RowKit Pl

theorem eq_items {P : Program} (w : World) (d : Nat) {e : TypeId} (he : P.underlying e = some .string) (f g : Nat → List UInt8) (xs ys : Array Value) :
    ∀ (is : List Nat), (∀ i ∈ is, xs[i * 1]? = some (.string ⟨List.toArray (f i)⟩) ∧ ys[i * 1]? = some (.string ⟨List.toArray (g i)⟩)) → (Op.eqItems (d + 1) e 1 xs ys is).run P w = .ok (decide (∀ i ∈ is, f i = g i)) w
  | [], _ => by simp [Op.eqItems]
  | i :: is, h => by
    have hp : P.plainKey e = true := by simp [Program.plainKey, he]
    obtain ⟨h1, h2⟩ := h i (by simp)
    have ih := eq_items w d he f g xs ys is (fun j hj => h j (by simp [hj]))
    simp only [Op.eqItems, Sem.run_bind, run_part_plain w hp h1, run_part_plain w hp h2, Result.andThen_ok, run_equalIn_string w d e _ _ he]
    have hb : ((⟨List.toArray (f i)⟩ : ByteArray).toList == (⟨List.toArray (g i)⟩ : ByteArray).toList) = decide (f i = g i) := by
      rw [← beq_toListBytes, str_beq]
    rw [hb]
    by_cases hfg : f i = g i
    · simp [hfg, ih]
    · simp [hfg]

theorem eq_strs {P : Program} (w : World) (d : Nat) {t e : TypeId} {n : Nat} {i : TypeInfo} (hu : P.underlying t = some (.array n e)) (hi : P.info? e = some i) (he : P.underlying e = some .string) (hc : P.cellsOf e = 1)
    (f g : Nat → List UInt8) (xs ys : Array Value) (hx : ∀ i, i < n → xs[i]? = some (.string ⟨List.toArray (f i)⟩)) (hy : ∀ i, i < n → ys[i]? = some (.string ⟨List.toArray (g i)⟩)) :
    (Op.equalIn (d + 2) t (.agg xs) (.agg ys)).run P w = .ok (decide (∀ i, i < n → f i = g i)) w := by
  rw [run_equalIn_array w (d + 1) xs ys hu hi, hc, eq_items w d he f g xs ys (List.range n) (fun i hi => by
    have hi' : i < n := by simpa using hi
    rw [Nat.mul_one]
    exact ⟨hx i hi', hy i hi'⟩)]
  congr 1
  simp

theorem list_getD (l : List (List UInt8)) (i : Nat) (h : i < l.length) : (l.map fun s => Value.string ⟨List.toArray s⟩).toArray[i]? = some (.string ⟨List.toArray (l.getD i [])⟩) := by
  simp [List.getD, List.getElem?_eq_getElem h]

theorem same_of {l m : List (List UInt8)} {n : Nat} (hl : l.length = n) (hm : m.length = n) : decide (∀ i, i < n → l.getD i [] = m.getD i []) = sameL l m := by
  unfold sameL
  rw [decide_eq_decide]
  constructor
  · intro h
    apply List.ext_getElem (by omega)
    intro i h1 h2
    have := h i (by omega)
    simpa [List.getD, List.getElem?_eq_getElem h1, List.getElem?_eq_getElem h2] using this
  · rintro rfl i _
    rfl

theorem cellsStr : Tryd.prog.cellsOf 9 = 1 := by kernel_rfl

theorem ka_get (kid : Nat → Bs) (i : Nat) (h : i < 16) : (ka kid).toArray[i]? = some (.string ⟨List.toArray ((kidL kid).getD i [])⟩) := by
  have h1 := ka_at kid i h
  have h2 : (kidL kid).getD i [] = kid i := by simp [kidL, List.getD, h]
  rw [h2]
  simpa using h1

@[go_sem] theorem eq_kids (kid kid2 : Nat → Bs) (d : Nat) (w : World) :
    (Op.equalIn (d + 2) 97 (.agg (ka kid).toArray) (.agg (ka kid2).toArray)).run Tryd.prog w = .ok (sameL (kidL kid) (kidL kid2)) w := by
  obtain ⟨i0, hi, _⟩ := info_parts infoStr
  rw [eq_strs (P := Tryd.prog) w d Tryd.underlying97 hi Tryd.underlying9 cellsStr (fun i => (kidL kid).getD i []) (fun i => (kidL kid2).getD i []) _ _ (fun i hi => ka_get kid i hi) (fun i hi => ka_get kid2 i hi)]
  exact congrArg (fun b => Result.ok b w) (same_of (by simp [kidL]) (by simp [kidL]))
@[go_sem high] theorem eq_kids_none (kid : Nat → Bs) (d : Nat) (w : World) :
    (Op.equalIn (d + 2) 97 (.agg (ka kid).toArray) (.agg #[.string ⟨List.toArray ([])⟩, .string ⟨List.toArray ([])⟩, .string ⟨List.toArray ([])⟩, .string ⟨List.toArray ([])⟩, .string ⟨List.toArray ([])⟩, .string ⟨List.toArray ([])⟩, .string ⟨List.toArray ([])⟩, .string ⟨List.toArray ([])⟩, .string ⟨List.toArray ([])⟩, .string ⟨List.toArray ([])⟩, .string ⟨List.toArray ([])⟩, .string ⟨List.toArray ([])⟩, .string ⟨List.toArray ([])⟩, .string ⟨List.toArray ([])⟩, .string ⟨List.toArray ([])⟩, .string ⟨List.toArray ([])⟩])).run Tryd.prog w = .ok (noKids kid) w := by
  obtain ⟨i0, hi, _⟩ := info_parts infoStr
  rw [eq_strs (P := Tryd.prog) w d Tryd.underlying97 hi Tryd.underlying9 cellsStr (fun i => (kidL kid).getD i []) (fun i => ([[], [], [], [], [], [], [], [], [], [], [], [], [], [], [], []] : List Bs).getD i []) (ka kid).toArray #[.string ⟨List.toArray ([])⟩, .string ⟨List.toArray ([])⟩, .string ⟨List.toArray ([])⟩, .string ⟨List.toArray ([])⟩, .string ⟨List.toArray ([])⟩, .string ⟨List.toArray ([])⟩, .string ⟨List.toArray ([])⟩, .string ⟨List.toArray ([])⟩, .string ⟨List.toArray ([])⟩, .string ⟨List.toArray ([])⟩, .string ⟨List.toArray ([])⟩, .string ⟨List.toArray ([])⟩, .string ⟨List.toArray ([])⟩, .string ⟨List.toArray ([])⟩, .string ⟨List.toArray ([])⟩, .string ⟨List.toArray ([])⟩] (fun i hi => ka_get kid i hi) (fun i hi => list_getD [[], [], [], [], [], [], [], [], [], [], [], [], [], [], [], []] i hi)]
  exact congrArg (fun b => Result.ok b w) (same_of (by simp [kidL]) rfl)
@[go_sem] theorem eq_kids_one (kid : Nat → Bs) (x : Bs) (d : Nat) (w : World) :
    (Op.equalIn (d + 2) 97 (.agg (ka kid).toArray) (.agg #[.string ⟨List.toArray (x)⟩, .string ⟨List.toArray ([])⟩, .string ⟨List.toArray ([])⟩, .string ⟨List.toArray ([])⟩, .string ⟨List.toArray ([])⟩, .string ⟨List.toArray ([])⟩, .string ⟨List.toArray ([])⟩, .string ⟨List.toArray ([])⟩, .string ⟨List.toArray ([])⟩, .string ⟨List.toArray ([])⟩, .string ⟨List.toArray ([])⟩, .string ⟨List.toArray ([])⟩, .string ⟨List.toArray ([])⟩, .string ⟨List.toArray ([])⟩, .string ⟨List.toArray ([])⟩, .string ⟨List.toArray ([])⟩])).run Tryd.prog w = .ok (oneKidX kid x) w := by
  obtain ⟨i0, hi, _⟩ := info_parts infoStr
  rw [eq_strs (P := Tryd.prog) w d Tryd.underlying97 hi Tryd.underlying9 cellsStr (fun i => (kidL kid).getD i []) (fun i => ([x, [], [], [], [], [], [], [], [], [], [], [], [], [], [], []] : List Bs).getD i []) (ka kid).toArray #[.string ⟨List.toArray (x)⟩, .string ⟨List.toArray ([])⟩, .string ⟨List.toArray ([])⟩, .string ⟨List.toArray ([])⟩, .string ⟨List.toArray ([])⟩, .string ⟨List.toArray ([])⟩, .string ⟨List.toArray ([])⟩, .string ⟨List.toArray ([])⟩, .string ⟨List.toArray ([])⟩, .string ⟨List.toArray ([])⟩, .string ⟨List.toArray ([])⟩, .string ⟨List.toArray ([])⟩, .string ⟨List.toArray ([])⟩, .string ⟨List.toArray ([])⟩, .string ⟨List.toArray ([])⟩, .string ⟨List.toArray ([])⟩] (fun i hi => ka_get kid i hi) (fun i hi => list_getD [x, [], [], [], [], [], [], [], [], [], [], [], [], [], [], []] i hi)]
  exact congrArg (fun b => Result.ok b w) (same_of (by simp [kidL]) rfl)

end Go.Proofs.YtbnjhfkmdejeaaaDoor

/- Walks of layer 1: paths of half bytes. -/
set_option linter.unusedSimpArgs false
set_option linter.unusedVariables false
namespace Go.Proofs.YtbnjhfkmdejeaaaDoor
open Go.RowKit Pl

theorem nfit_any (s : Bs) (hs : s.length ≤ 9223372036854775807) (w : World) :
    Calls Tryd.prog 144 #[.string ⟨List.toArray (s)⟩] w fun e w' => e = .returned (.bool (fit s)) ∧ w = w' := by
  go_enter Tryd.func144, Tryd.ntmps144
  go_wp2_with fail
  go_loop [6] (fun s6 => ∃ i : Nat, i ≤ s.length ∧ s6 = .int .i64 i ∧ Hid (fit (s.take i) = true)) (fun s6 => s.length - (intOf s6).toNat)
  case atStart => exact ⟨0, by omega, rfl, Lib.hid (by simp [fit])⟩
  case round =>
    obtain ⟨i, hi, rfl, HF⟩ := hrel
    by_cases hlt : i < s.length
    · have hbi := s[i].toNat_lt
      by_cases h15 : 15 < s[i].toNat
      · have h15' : (15 : Int) < (s[i].toNat : Int) := by omega
        have HN := Lib.hid (fit_not s i hlt h15)
        go_wp2_with fail
        go_ret
        exact ⟨by rw [HN.out]; rfl, rfl⟩
      · have h15' : ¬ (15 : Int) < (s[i].toNat : Int) := by omega
        go_wp2_with fail
        exact ⟨⟨i + 1, by omega, by go_num, Lib.hid (by rw [fit_take s i hlt, HF.out]; simp; omega)⟩, by simp [intOf] <;> omega⟩
    · have hie : s.take i = s := List.take_of_length_le (by omega)
      have HN : Hid (fit s = true) := Lib.hid (by rw [← hie]; exact HF.out)
      clear hie
      go_wp2_with fail
      go_ret
      exact ⟨by rw [HN.out]; rfl, rfl⟩

set_option maxRecDepth 100000 in
set_option maxHeartbeats 1000000 in
theorem nof_any (s : Bs) (hs : s.length ≤ 35184372088832) (w : World) :
    Calls Tryd.prog 143 #[.string ⟨List.toArray (s)⟩] w fun e w' => e = .returned (.string ⟨List.toArray (ofP s)⟩) ∧ Below w.heap.size w w' := by
  obtain ⟨w1, hmk, hB, hb1⟩ := BRow.make w w.heap.size (2 * s.length) (by omega) (Nat.le_refl _)
  have hcast : (((2 * s.length : Nat)) : Int) = 2 * (s.length : Int) := by simp
  rw [hcast] at hmk
  clear hcast
  go_enter Tryd.func143, Tryd.ntmps143
  go_wp2_with fail
  go_loopw [3, 11] (fun s3 s11 wr => ∃ i : Nat, i ≤ s.length ∧ s11 = .int .i64 i ∧ BRow wr w.heap.size s3 (ofP (s.take i)) ∧ Below w.heap.size w wr) (fun _ s11 _ => s.length - (intOf s11).toNat)
  case atStart => exact ⟨0, by omega, rfl, hB, hb1⟩
  case round =>
    clear hmk hB hb1
    obtain ⟨i, hi, rfl, hB, hb⟩ := hrel
    rename_i wr
    by_cases hlt : i < s.length
    · have hbi := s[i].toNat_lt
      have hol := ofP_len (s.take i)
      have htl : (s.take i).length = i := by simp; omega
      have HOL : Hid ((ofP (s.take i)).length = 2 * i) := Lib.hid (by rw [hol, htl])
      clear hol htl
      go_wp2_with fail
      go_region_law (refine step_appB rfl (.tmp 14) (.tmp 23) rfl w.heap.size _ (ofP (s.take i)) rfl (hB.alloc _).drew wr.heap.size 0 2 2 [UInt8.ofNat (s[i].toNat / 16), UInt8.ofNat (s[i].toNat % 16)] rfl rfl (bsrc2 _ _ _ _ _ _ (by simp; omega) (by rw [u8_and15 _ hbi]; simp; omega)).drew (by rw [HOL.out]; omega) (by have := hb.size; simp; omega) ?_; rintro v' w2 hB2 hb2)
      all_goals go_wp2_with fail
      all_goals exact ⟨⟨i + 1, by omega, by go_num, by rw [List.take_succ_eq_append_getElem hlt, ofP_snoc]; exact hB2, (Below.allocS hb _).drew.trans hb2⟩, by simp [intOf] <;> omega⟩
    · have hcv := hB.conv
      go_wp2_with fail
      go_ret
      refine ⟨?_, hb⟩
      rw [List.take_of_length_le (by omega)]; rfl

theorem joined_at : ∀ (s : Bs) (i : Nat) (h : 2 * i + 1 < s.length), joined (s.take (2 * i + 2)) = joined (s.take (2 * i)) ++ [UInt8.ofNat ((s[2 * i]'(by omega)).toNat * 16 + (s[2 * i + 1]).toNat)]
  | a :: b :: r, 0, _ => by simp [joined]
  | a :: b :: r, i + 1, h => by
    have h' : 2 * i + 1 < r.length := by simp at h; omega
    have ih := joined_at r i h'
    have e1 : (a :: b :: r).take (2 * (i + 1) + 2) = a :: b :: r.take (2 * i + 2) := by
      rw [show 2 * (i + 1) + 2 = (2 * i + 2) + 1 + 1 from by omega]; simp
    have e2 : (a :: b :: r).take (2 * (i + 1)) = a :: b :: r.take (2 * i) := by
      rw [show 2 * (i + 1) = (2 * i) + 1 + 1 from by omega]; simp
    rw [e1, e2]
    simp only [joined, ih, List.cons_append]
    rfl
  | [], _, h => by simp at h
  | [_], i, h => by simp at h
theorem joined_all (s : Bs) : joined (s.take (2 * (s.length / 2))) = joined s := by
  by_cases h : s.length % 2 = 0
  · rw [List.take_of_length_le (by omega)]
  · have : ∀ (n : Nat) (s : Bs), s.length = 2 * n + 1 → joined (s.take (2 * n)) = joined s := by
      intro n
      induction n with
      | zero =>
        intro s hs
        match s, hs with
        | [a], _ => rfl
      | succ n ih =>
        intro s hs
        match s, hs with
        | a :: b :: r, hs =>
          have e2 : (a :: b :: r).take (2 * (n + 1)) = a :: b :: r.take (2 * n) := by
            rw [show 2 * (n + 1) = (2 * n) + 1 + 1 from by omega]; simp
          rw [e2]
          simp only [joined]
          rw [ih r (by simp at hs; omega)]
    rw [show 2 * (s.length / 2) = 2 * (s.length / 2) from rfl]
    exact this (s.length / 2) s (by omega)
theorem joined_len : ∀ (s : Bs), (joined s).length = s.length / 2
  | [] => rfl
  | [_] => by simp [joined]
  | a :: b :: r => by simp [joined, joined_len r]; omega

end Go.Proofs.YtbnjhfkmdejeaaaDoor

/- Walks of layer 8: may a node be? -/
set_option linter.unusedSimpArgs false
set_option linter.unusedVariables false
namespace Go.Proofs.YtbnjhfkmdejeaaaDoor
open Go.RowKit Pl

theorem npath_any (p : Bs) (least : Int) (hs : p.length ≤ 9223372036854775807) (w : World) :
    Calls Tryd.prog 134 #[.string ⟨List.toArray (p)⟩, .int .i64 (least)] w fun e w' => e = .returned (.bool (pathOk p least)) ∧ w = w' := by
  generalize hr : pathOk p least = r
  unfold pathOk at hr
  have HR := Lib.hid hr
  clear hr
  go_enter Tryd.func134, Tryd.ntmps134
  go_wp2_with fail
  refine (nfit_any p hs _).mono ?_
  rintro e w1 ⟨rfl, rfl⟩
  cases hf : fit p
  · rw [hf] at HR
    clear hf
    go_wp2_with fail
    all_goals go_ret
    all_goals exact ⟨by rw [← HR.out]; rfl, rfl⟩
  · rw [hf] at HR
    clear hf
    go_wp2_with fail
    all_goals go_ret
    all_goals (refine ⟨?_, rfl⟩; rw [← HR.out]; simp [*] <;> omega)

theorem sums_nil (w : World) : Calls Tryd.prog 135 #[.slice none 0 0] w fun e w' => e = .returned (.bool (all32 [])) ∧ w = w' := by
  go_enter Tryd.func135, Tryd.ntmps135
  go_wp2_with fail
  go_loop [7] (fun s7 => s7 = .int .i64 0) (fun _ => 0)
  case atStart => rfl
  case round =>
    obtain rfl := hrel
    go_wp2_with fail
    go_ret
    exact ⟨rfl, rfl⟩

theorem all32_not (l : List Bs) (i : Nat) (hi : i < l.length) (h : (l.getD i []).length ≠ 32) : all32 l = false := by
  cases hf : all32 l with
  | false => rfl
  | true =>
    exfalso
    apply h
    have := List.all_eq_true.1 hf (l[i]) (List.getElem_mem hi)
    simpa [List.getD, List.getElem?_eq_getElem hi] using this

theorem sums_own (b off len cap : Nat) (l : List Bs) (hlen : l.length = len) (hmax : len ≤ 9223372036854775807) (w : World) (hc : ∀ i, i < len → w.cell? ⟨b, off + i, none⟩ = some (.string ⟨List.toArray (l.getD i [])⟩)) :
    Calls Tryd.prog 135 #[.slice (some ⟨b, off, none⟩) len cap] w fun e w' => e = .returned (.bool (all32 l)) ∧ w = w' := by
  have HC := Lib.hid hc
  have HL := Lib.hid hlen
  clear hc hlen
  go_enter Tryd.func135, Tryd.ntmps135
  go_wp2_with fail
  go_loop [7] (fun s7 => ∃ i : Nat, i ≤ len ∧ s7 = .int .i64 i ∧ Hid (∀ j, j < i → (l.getD j []).length = 32)) (fun s7 => len - (intOf s7).toNat)
  case atStart => exact ⟨0, by omega, rfl, Lib.hid (fun j hj => by omega)⟩
  case round =>
    obtain ⟨i, hi, rfl, HA⟩ := hrel
    by_cases hlt : i < len
    · have hci := HC.out i hlt
      by_cases h32 : (l.getD i []).length = 32
      · have HN : Hid (∀ j, j < i + 1 → (l.getD j []).length = 32) := Lib.hid (fun j hj => by
          rcases Nat.lt_or_ge j i with h | h
          · exact HA.out j h
          · have : j = i := by omega
            subst this; exact h32)
        generalize l.getD i [] = x at hci h32
        have hb : ((x.length : Int) != 32) = false := by simp; omega
        clear h32
        go_wp2_with fail
        exact ⟨⟨i + 1, by omega, by go_num, HN⟩, by simp [intOf]; omega⟩
      · have HN := Lib.hid (all32_not l i (by rw [HL.out]; exact hlt) h32)
        generalize l.getD i [] = x at hci h32
        have hb : ((x.length : Int) != 32) = true := by simp; omega
        clear h32
        go_wp2_with fail
        go_ret
        exact ⟨by rw [HN.out]; rfl, rfl⟩
    · have HN : Hid (all32 l = true) := Lib.hid (by
        unfold all32
        rw [List.all_eq_true]
        intro s hs
        obtain ⟨j, hj, rfl⟩ := List.getElem_of_mem hs
        have := HA.out j (by have := HL.out; omega)
        simpa [List.getD, List.getElem?_eq_getElem hj] using this)
      go_wp2_with fail
      go_ret
      exact ⟨by rw [HN.out]; rfl, rfl⟩

theorem sums_any (base : Nat) (v : Value) (l : List Bs) (w : World) (h : SRow w base v l) :
    Calls Tryd.prog 135 #[v] w fun e w' => e = .returned (.bool (all32 l)) ∧ w = w' := by
  rcases h.cells with ⟨rfl, rfl⟩ | ⟨g, cap, rfl, hb, hlt, hn, hm, hc, hf⟩
  · exact sums_nil w
  · exact sums_own g 0 l.length cap l rfl (by unfold maxLen at hm; omega) w (fun i hi => by simpa using hc i hi)

end Go.Proofs.YtbnjhfkmdejeaaaDoor

/- Walks of layer 8: may a node be? -/
set_option linter.unusedSimpArgs false
set_option linter.unusedVariables false
namespace Go.Proofs.YtbnjhfkmdejeaaaDoor
open Go.RowKit Pl

set_option maxRecDepth 100000 in
set_option maxHeartbeats 4000000 in
theorem check_leaf (path val : Bs) (kid : Nat → Bs) (hp : path.length ≤ 9223372036854775807) (w : World) :
    Calls Tryd.prog 111 #[.agg (nd 1 path val kid).toArray] w fun e w' => e = .returned (.int .i64 (chkI (chk 1 path val kid))) ∧ Below w.heap.size w w' := by
  generalize hr : chkI (chk 1 path val kid) = r
  unfold chk at hr
  rw [if_pos rfl] at hr
  have HR := Lib.hid hr
  clear hr
  have hB0 := Blk.new w (nd 1 path val kid).toArray 99
  go_enter Tryd.func111, Tryd.ntmps111
  go_wp2_with (refine wpList_node rfl (.tmp 1) rfl rfl hB0 ?_)
  refine (kids_any _ path val kid _).mono ?_
  rintro e w1 ⟨va, vc, rfl, hS, hb⟩
  have hB : Blk w1 w.heap.size (nd 1 path val kid).toArray := hB0.keep hb
  have hb0 : Below w.heap.size w w1 := (Below.allocS (Below.refl _ _) _).trans (hb.mono (by simp))
  clear hb hB0
  obtain ⟨b1, b2, b3⟩ := id hB
  cases h1 : noKids kid
  · go_wp2_with (refine wpList_kidsArr rfl (.tmp 12) rfl rfl hB ?_)
    all_goals (go_ret; refine ⟨?_, hb0⟩; rw [← HR.out]; simp [*, chkI])
  · go_wp2_with (refine wpList_kidsArr rfl (.tmp 12) rfl rfl hB ?_)
    refine (npath_any path 0 hp _).mono ?_
    rintro e w2 ⟨rfl, rfl⟩
    cases h2 : pathOk path 0
    · go_wp2_with fail
      all_goals (go_ret; refine ⟨?_, hb0⟩; rw [← HR.out]; simp [*, chkI])
    · by_cases hv : val = []
      · subst hv
        go_wp2_with fail
        all_goals (go_ret; refine ⟨?_, hb0⟩; rw [← HR.out]; simp [*, chkI])
      · have hv1 : val.isEmpty = false := by simpa using hv
        clear hv
        by_cases h32 : val.length ≤ 32
        · have h32' : decide ((val.length : Int) ≤ 32) = true := by simp; omega
          go_wp2_with fail
          all_goals (go_ret; refine ⟨?_, hb0⟩; rw [← HR.out]; simp [*, chkI])
        · have h32' : decide ((val.length : Int) ≤ 32) = false := by simp; omega
          go_wp2_with fail
          all_goals (go_ret; refine ⟨?_, hb0⟩; rw [← HR.out]; simp [*, chkI])
  

set_option maxRecDepth 100000 in
set_option maxHeartbeats 4000000 in
theorem check_branch (path val : Bs) (kid : Nat → Bs) (hp : path.length ≤ 9223372036854775807) (w : World) :
    Calls Tryd.prog 111 #[.agg (nd 3 path val kid).toArray] w fun e w' => e = .returned (.int .i64 (chkI (chk 3 path val kid))) ∧ Below w.heap.size w w' := by
  generalize hr : chkI (chk 3 path val kid) = r
  unfold chk at hr
  rw [if_neg (by decide), if_neg (by decide), if_pos rfl] at hr
  have HR := Lib.hid hr
  clear hr
  have hB0 := Blk.new w (nd 3 path val kid).toArray 99
  go_enter Tryd.func111, Tryd.ntmps111
  go_wp2_with (refine wpList_node rfl (.tmp 1) rfl rfl hB0 ?_)
  refine (kids_any _ path val kid _).mono ?_
  rintro e w1 ⟨va, vc, rfl, hS, hb⟩
  have hB : Blk w1 w.heap.size (nd 3 path val kid).toArray := hB0.keep hb
  have hb0 : Below w.heap.size w w1 := (Below.allocS (Below.refl _ _) _).trans (hb.mono (by simp))
  clear hb hB0
  obtain ⟨b1, b2, b3⟩ := id hB
  have hkl := kidsTo_len kid 16
  have hkl' : ((kidsF kid).length : Int) ≤ 16 := by unfold kidsF; omega
  cases path with
  | cons pc pr =>
    by_cases hv : val = []
    · subst hv
      go_wp2_with fail
      all_goals (go_ret; refine ⟨?_, hb0⟩; rw [← HR.out]; simp [*, chkI])
    · have hv1 : val.isEmpty = false := by simpa using hv
      clear hv
      go_wp2_with fail
      all_goals (go_ret; refine ⟨?_, hb0⟩; rw [← HR.out]; simp [*, chkI])
  | nil =>
    cases h1 : all32 (kidsF kid)
    · by_cases hv : val = []
      · subst hv
        go_wp2_with fail
        refine (sums_any _ _ _ _ hS).mono ?_
        rintro e w2 ⟨rfl, rfl⟩
        rw [h1]
        go_wp2_with fail
        all_goals (go_ret; refine ⟨?_, hb0⟩; rw [← HR.out]; simp [*, chkI])
      · have hv1 : val.isEmpty = false := by simpa using hv
        clear hv
        go_wp2_with fail
        refine (sums_any _ _ _ _ hS).mono ?_
        rintro e w2 ⟨rfl, rfl⟩
        rw [h1]
        go_wp2_with fail
        all_goals (go_ret; refine ⟨?_, hb0⟩; rw [← HR.out]; simp [*, chkI])
  
    · by_cases hv : val = []
      · subst hv
        by_cases h2 : 2 ≤ (kidsF kid).length
        · have h2' : decide ((2 : Int) ≤ ((kidsF kid).length : Int)) = true := by simp; omega
          go_wp2_with fail
          refine (sums_any _ _ _ _ hS).mono ?_
          rintro e w2 ⟨rfl, rfl⟩
          rw [h1]
          go_wp2_with fail
          all_goals (go_ret; refine ⟨?_, hb0⟩; rw [← HR.out]; simp [*, chkI])
        · have h2' : decide ((2 : Int) ≤ ((kidsF kid).length : Int)) = false := by simp; omega
          go_wp2_with fail
          refine (sums_any _ _ _ _ hS).mono ?_
          rintro e w2 ⟨rfl, rfl⟩
          rw [h1]
          go_wp2_with fail
          all_goals (go_ret; refine ⟨?_, hb0⟩; rw [← HR.out]; simp [*, chkI])
      · have hv1 : val.isEmpty = false := by simpa using hv
        clear hv
        by_cases h32 : val.length ≤ 32
        · have h32' : decide ((val.length : Int) ≤ 32) = true := by simp; omega
          by_cases h2 : 2 ≤ (kidsF kid).length + 1
          · have h2' : decide ((2 : Int) ≤ ((kidsF kid).length : Int) + 1) = true := by simp; omega
            go_wp2_with fail
            refine (sums_any _ _ _ _ hS).mono ?_
            rintro e w2 ⟨rfl, rfl⟩
            rw [h1]
            go_wp2_with fail
            all_goals (go_ret; refine ⟨?_, hb0⟩; rw [← HR.out]; simp [*, chkI])
          · have h2' : decide ((2 : Int) ≤ ((kidsF kid).length : Int) + 1) = false := by simp; omega
            go_wp2_with fail
            refine (sums_any _ _ _ _ hS).mono ?_
            rintro e w2 ⟨rfl, rfl⟩
            rw [h1]
            go_wp2_with fail
            all_goals (go_ret; refine ⟨?_, hb0⟩; rw [← HR.out]; simp [*, chkI])
        · have h32' : decide ((val.length : Int) ≤ 32) = false := by simp; omega
          by_cases h2 : 2 ≤ (kidsF kid).length + 1
          · have h2' : decide ((2 : Int) ≤ ((kidsF kid).length : Int) + 1) = true := by simp; omega
            go_wp2_with fail
            refine (sums_any _ _ _ _ hS).mono ?_
            rintro e w2 ⟨rfl, rfl⟩
            rw [h1]
            go_wp2_with fail
            all_goals (go_ret; refine ⟨?_, hb0⟩; rw [← HR.out]; simp [*, chkI])
          · have h2' : decide ((2 : Int) ≤ ((kidsF kid).length : Int) + 1) = false := by simp; omega
            go_wp2_with fail
            refine (sums_any _ _ _ _ hS).mono ?_
            rintro e w2 ⟨rfl, rfl⟩
            rw [h1]
            go_wp2_with fail
            all_goals (go_ret; refine ⟨?_, hb0⟩; rw [← HR.out]; simp [*, chkI])

set_option maxRecDepth 100000 in
set_option maxHeartbeats 4000000 in
theorem check_ext (path val : Bs) (kid : Nat → Bs) (hp : path.length ≤ 9223372036854775807) (w : World) :
    Calls Tryd.prog 111 #[.agg (nd 2 path val kid).toArray] w fun e w' => e = .returned (.int .i64 (chkI (chk 2 path val kid))) ∧ Below w.heap.size w w' := by
  generalize hr : chkI (chk 2 path val kid) = r
  unfold chk at hr
  rw [if_neg (by decide), if_pos rfl] at hr
  have HR := Lib.hid hr
  clear hr
  have hB0 := Blk.new w (nd 2 path val kid).toArray 99
  go_enter Tryd.func111, Tryd.ntmps111
  go_wp2_with (refine wpList_node rfl (.tmp 1) rfl rfl hB0 ?_)
  refine (kids_any _ path val kid _).mono ?_
  rintro e w1 ⟨va, vc, rfl, hS, hb⟩
  have hB : Blk w1 w.heap.size (nd 2 path val kid).toArray := hB0.keep hb
  have hb0 : Below w.heap.size w w1 := (Below.allocS (Below.refl _ _) _).trans (hb.mono (by simp))
  clear hb hB0
  obtain ⟨b1, b2, b3⟩ := id hB
  cases h1 : oneKidX kid (kid 0)
  · go_wp2_with (refine wpList_kidsArr rfl (.tmp 34) rfl rfl hB ?_)
    all_goals (go_ret; refine ⟨?_, hb0⟩; rw [← HR.out]; simp [*, chkI])
  · go_wp2_with (refine wpList_kidsArr rfl (.tmp 34) rfl rfl hB ?_)
    refine (sums_own w.heap.size 3 1 16 [kid 0] rfl (by decide) _ (fun i hi => by
      have : i = 0 := by omega
      subst this
      simpa using b1 3)).mono ?_
    rintro e w2 ⟨rfl, rfl⟩
    cases h2 : all32 [kid 0]
    · go_wp2_with fail
      all_goals (go_ret; refine ⟨?_, hb0⟩; rw [← HR.out]; simp [*, chkI])
    · go_wp2_with fail
      refine (npath_any path 1 hp _).mono ?_
      rintro e w2 ⟨rfl, rfl⟩
      cases h3 : pathOk path 1
      · go_wp2_with fail
        all_goals (go_ret; refine ⟨?_, hb0⟩; rw [← HR.out]; simp [*, chkI])
      · by_cases hv : val = []
        · subst hv
          go_wp2_with fail
          all_goals (go_ret; refine ⟨?_, hb0⟩; rw [← HR.out]; simp [*, chkI])
        · have hv1 : val.isEmpty = false := by simpa using hv
          clear hv
          go_wp2_with fail
          all_goals (go_ret; refine ⟨?_, hb0⟩; rw [← HR.out]; simp [*, chkI])

set_option maxRecDepth 100000 in
set_option maxHeartbeats 4000000 in
theorem check_else (kind : Int) (path val : Bs) (kid : Nat → Bs) (k1 : (kind == 1) = false) (k2 : (kind == 2) = false) (k3 : (kind == 3) = false) (w : World) :
    Calls Tryd.prog 111 #[.agg (nd kind path val kid).toArray] w fun e w' => e = .returned (.int .i64 (chkI (chk kind path val kid))) ∧ Below w.heap.size w w' := by
  generalize hr : chkI (chk kind path val kid) = r
  unfold chk at hr
  rw [if_neg (by simpa using k1), if_neg (by simpa using k2), if_neg (by simpa using k3)] at hr
  have HR := Lib.hid hr
  clear hr
  have hB0 := Blk.new w (nd kind path val kid).toArray 99
  go_enter Tryd.func111, Tryd.ntmps111
  go_wp2_with (refine wpList_node rfl (.tmp 1) rfl rfl hB0 ?_)
  refine (kids_any _ path val kid _).mono ?_
  rintro e w1 ⟨va, vc, rfl, hS, hb⟩
  have hB : Blk w1 w.heap.size (nd kind path val kid).toArray := hB0.keep hb
  have hb0 : Below w.heap.size w w1 := (Below.allocS (Below.refl _ _) _).trans (hb.mono (by simp))
  clear hb hB0
  obtain ⟨b1, b2, b3⟩ := id hB
  go_wp2_with fail
  all_goals (go_ret; refine ⟨?_, hb0⟩; rw [← HR.out]; simp [*, chkI])

theorem check_any (kind : Int) (path val : Bs) (kid : Nat → Bs) (hp : path.length ≤ 9223372036854775807) (w : World) :
    Calls Tryd.prog 111 #[.agg (nd kind path val kid).toArray] w fun e w' => e = .returned (.int .i64 (chkI (chk kind path val kid))) ∧ Below w.heap.size w w' := by
  by_cases k1 : kind = 1
  · subst k1; exact check_leaf path val kid hp w
  · by_cases k2 : kind = 2
    · subst k2; exact check_ext path val kid hp w
    · by_cases k3 : kind = 3
      · subst k3; exact check_branch path val kid hp w
      · exact check_else kind path val kid (by simpa using k1) (by simpa using k2) (by simpa using k3) w

end Go.Proofs.YtbnjhfkmdejeaaaDoor

/- Walks of layer 1: Pack, Unpack. -/
set_option linter.unusedSimpArgs false
set_option linter.unusedVariables false
namespace Go.Proofs.YtbnjhfkmdejeaaaDoor
open Go.RowKit Pl

end Go.Proofs.YtbnjhfkmdejeaaaDoor

/- Walks of layer 8: a node as bytes. -/
set_option linter.unusedSimpArgs false
set_option linter.unusedVariables false
namespace Go.Proofs.YtbnjhfkmdejeaaaDoor
open Go.RowKit Pl

theorem wrap64_nat (a : Nat) (ha : a < 9223372036854775808) : wrap64 (a : Int) = a := by
  unfold wrap64
  omega
theorem flat_len (l : List Bs) (h : all32 l = true) : l.flatten.length = 32 * l.length := by
  induction l with
  | nil => rfl
  | cons a r ih =>
    simp [all32] at h ih ⊢
    rw [ih h.2, h.1]; omega

end Go.Proofs.YtbnjhfkmdejeaaaDoor
