/- Layer 8: a node as a value; the sums that it names. -/
import Derived.Test.YtmldonbmjgelnaaDoorStrs
import Derived.Test.YtmldonbmjgelnaaDoorPlain
import Derived.Deep.MidRow
import Derived.ChangeKeysEq
set_option linter.unusedSimpArgs false
set_option linter.unusedVariables false
namespace Go.Proofs.YtmldonbmjgelnaaDoor
open Go.RowKit Pl

/-- The cells of the kids, of a node. -/
def ka (kid : Nat → Bs) : List Value := (kidL kid).map fun s => .string ⟨List.toArray (s)⟩
def nd (kind : Int) (path val : Bs) (kid : Nat → Bs) : List Value := .int .i64 (kind) :: .string ⟨List.toArray (path)⟩ :: .string ⟨List.toArray (val)⟩ :: ka kid
theorem ka_len (kid : Nat → Bs) : (ka kid).length = 16 := by simp [ka, kidL]
theorem nd_len (kind : Int) (path val : Bs) (kid : Nat → Bs) : (nd kind path val kid).length = 19 := by simp [nd, ka_len]
theorem ka_at (kid : Nat → Bs) (k : Nat) (hk : k < 16) : (ka kid)[k]? = some (.string ⟨List.toArray (kid k)⟩) := by
  simp [ka, kidL, hk]
theorem nd_at (kind : Int) (path val : Bs) (kid : Nat → Bs) (k : Nat) (hk : k < 16) : (nd kind path val kid)[3 + k]? = some (.string ⟨List.toArray (kid k)⟩) := by
  have : (nd kind path val kid)[3 + k]? = (ka kid)[k]? := by
    rw [Nat.add_comm]; rfl
  rw [this, ka_at kid k hk]
@[go_sem, simp] theorem nd0 (kind : Int) (path val : Bs) (kid : Nat → Bs) : (nd kind path val kid).toArray[0]? = some (.int .i64 (kind)) := rfl
@[go_sem, simp] theorem nd1 (kind : Int) (path val : Bs) (kid : Nat → Bs) : (nd kind path val kid).toArray[1]? = some (.string ⟨List.toArray (path)⟩) := rfl
@[go_sem, simp] theorem nd2 (kind : Int) (path val : Bs) (kid : Nat → Bs) : (nd kind path val kid).toArray[2]? = some (.string ⟨List.toArray (val)⟩) := rfl
@[go_sem, simp] theorem nd3 (kind : Int) (path val : Bs) (kid : Nat → Bs) : (nd kind path val kid).toArray[3]? = some (.string ⟨List.toArray (kid 0)⟩) := rfl
@[go_sem, simp] theorem nd0g (kind : Int) (path val : Bs) (kid : Nat → Bs) (h : 0 < (nd kind path val kid).length) : (nd kind path val kid)[0]'h = .int .i64 (kind) := rfl
@[go_sem, simp] theorem nd1g (kind : Int) (path val : Bs) (kid : Nat → Bs) (h : 1 < (nd kind path val kid).length) : (nd kind path val kid)[1]'h = .string ⟨List.toArray (path)⟩ := rfl
@[go_sem, simp] theorem nd2g (kind : Int) (path val : Bs) (kid : Nat → Bs) (h : 2 < (nd kind path val kid).length) : (nd kind path val kid)[2]'h = .string ⟨List.toArray (val)⟩ := rfl
@[go_sem, simp] theorem nd3g (kind : Int) (path val : Bs) (kid : Nat → Bs) (h : 3 < (nd kind path val kid).length) : (nd kind path val kid)[3]'h = .string ⟨List.toArray (kid 0)⟩ := rfl
@[go_sem, simp] theorem ka_size (kid : Nat → Bs) : (ka kid).toArray.size = 16 := by simp [ka_len]
@[go_sem, simp] theorem nd_size (kind : Int) (path val : Bs) (kid : Nat → Bs) : (nd kind path val kid).toArray.size = 19 := by simp [nd_len]
@[go_sem, simp] theorem ka_size' (kid : Nat → Bs) : (ka kid).length = 16 := ka_len kid
@[go_sem, simp] theorem nd_size' (kind : Int) (path val : Bs) (kid : Nat → Bs) : (nd kind path val kid).length = 19 := nd_len kind path val kid

theorem nd_range {w : World} {b : Nat} {kind : Int} {path val : Bs} {kid : Nat → Bs} (h : Blk w b (nd kind path val kid).toArray) : w.rangeAt b 0 (nd kind path val kid) := by
  intro j v hv
  rw [Nat.zero_add, h.cell j]
  simpa using hv
theorem ka_range {w : World} {b : Nat} {kind : Int} {path val : Bs} {kid : Nat → Bs} (h : Blk w b (nd kind path val kid).toArray) : w.rangeAt b 3 (ka kid) := by
  intro j v hv
  rw [h.cell (3 + j)]
  have : (nd kind path val kid)[3 + j]? = (ka kid)[j]? := by
    rw [Nat.add_comm]; rfl
  simpa [this] using hv
theorem blk_kid {w : World} {b : Nat} {kind : Int} {path val : Bs} {kid : Nat → Bs} (h : Blk w b (nd kind path val kid).toArray) (k : Nat) (hk : k < 16) : w.cell? ⟨b, 3 + k, none⟩ = some (.string ⟨List.toArray (kid k)⟩) := by
  rw [h.cell]
  simpa using nd_at kind path val kid k hk
theorem nd_info : (Tryd.prog.info? 24).map (·.size) = some 19 := by kernel_rfl
theorem ka_info : (Tryd.prog.info? 22).map (·.size) = some 16 := by kernel_rfl

section
variable {ops : Array Oper} {rest : List Oper} {op : Oper} {a : Act} {w : World} {Q : Exit → Act → World → Prop}
/-- The whole node is loaded. -/
theorem wpList_node (hgd : op.guard = none) (x : Operand) (ho : op.op = .load 24 x) {b : Nat} (hx : a.eval x = .pointer (some ⟨b, 0, none⟩)) {kind : Int} {path val : Bs} {kid : Nat → Bs} (hB : Blk w b (nd kind path val kid).toArray)
    (h : wpList Tryd.prog ops Q rest (a.put op.dst (.agg (nd kind path val kid).toArray)) w) : wpList Tryd.prog ops Q (op :: rest) a w :=
  wpList_load_mid hgd 24 x ho b 0 hx (nd kind path val kid) _ (nd_range hB) Tryd.underlying24 rfl (by rw [nd_len]; exact nd_info) h
/-- Its kids are. -/
theorem wpList_kidsArr (hgd : op.guard = none) (x : Operand) (ho : op.op = .load 22 x) {b : Nat} (hx : a.eval x = .pointer (some ⟨b, 3, none⟩)) {kind : Int} {path val : Bs} {kid : Nat → Bs} (hB : Blk w b (nd kind path val kid).toArray)
    (h : wpList Tryd.prog ops Q rest (a.put op.dst (.agg (ka kid).toArray)) w) : wpList Tryd.prog ops Q (op :: rest) a w :=
  wpList_load_mid hgd 22 x ho b 3 hx (ka kid) _ (ka_range hB) Tryd.underlying22 rfl (by rw [ka_len]; exact ka_info) h
end

theorem kid_index (kid : Nat → Bs) (k : Nat) (hk : k < 16) (w : World) : (Instr.index 22 (.agg (ka kid).toArray) (.int .i64 (k : Int))).run Tryd.prog w = .ok (.string ⟨List.toArray (kid k)⟩) w := by
  obtain ⟨i0, hi, _, hs, _⟩ := info_parts infoStr
  have hp : (Tryd.prog).plainKey 9 = true := by simp [Program.plainKey, Tryd.underlying9]
  have hpart := run_part_plain (P := Tryd.prog) w hp (off := k) (xs := (ka kid).toArray) (by simpa using ka_at kid k hk)
  have hsz : (Go.sizeOf 9).run Tryd.prog w = .ok 1 w := by simp [Go.sizeOf, typeInfo, hi, hs]
  have hk' : (0 : Int) ≤ (k : Int) ∧ (k : Int) < 16 := by omega
  simp [Instr.index, asIntOf, run_underlying Tryd.underlying22, hk', hsz, hpart, Sem.run_bind]
  intro h
  omega

set_option maxRecDepth 100000 in
set_option maxHeartbeats 1000000 in
theorem kids_any (kind : Int) (path val : Bs) (kid : Nat → Bs) (w : World) :
    Calls Tryd.prog 20 #[.agg (nd kind path val kid).toArray] w fun e w' => ∃ (x : Option Addr) (cap : Nat), e = .returned (.slice x (kidsF kid).length cap) ∧ SRow w' w.heap.size (.slice x (kidsF kid).length cap) (kidsF kid) ∧ Below w.heap.size w w' := by
  have hB := Blk.new w (nd kind path val kid).toArray 24
  go_enter Tryd.func20, Tryd.ntmps20
  go_wp2_with (refine wpList_kidsArr rfl (.tmp 6) rfl rfl hB ?_)
  go_loopw [3, 8] (fun s3 s8 wr => ∃ k : Nat, k ≤ 16 ∧ s8 = .int .i64 k ∧ SRow wr w.heap.size s3 (kidsTo kid k) ∧ Below w.heap.size w wr) (fun _ s8 _ => 16 - (intOf s8).toNat)
  case atStart => exact ⟨0, by omega, rfl, SRow.nil _ _, by (repeat (first | exact Below.refl _ _ | assumption | apply Below.drew | apply below_drewN | apply Below.allocS | (refine Below.setCell ?_ (by simp <;> omega) _) | (refine Below.alloc ?_ (by simp <;> omega) _) | (refine Below.trans ?_ (Below.mono (by assumption) (by simp <;> omega)))))⟩
  case round =>
    obtain ⟨k, hk, rfl, hS, hb⟩ := hrel
    rename_i wr
    clear hB
    by_cases hlt : k < 16
    · have hki := kid_index kid k hlt
      have hlt' : (k : Int) < 16 := by omega
      have hkl := kidsTo_len kid k
      have HKS := Lib.hid (kidsTo_succ kid k)
      by_cases he : kid k = []
      · have HK : Hid (kidsTo kid (k + 1) = kidsTo kid k) := Lib.hid (by rw [HKS.out, if_pos he]; simp)
        rw [he] at hki
        have HE := Lib.hid he
        clear he
        go_wp2_with fail
        exact ⟨⟨k + 1, by omega, by go_num, by rw [HK.out]; exact hS, hb⟩, by simp [intOf]; omega⟩
      · have HK : Hid (kidsTo kid (k + 1) = kidsTo kid k ++ [kid k]) := Lib.hid (by rw [HKS.out, if_neg he])
        have he1 : (kid k).isEmpty = false := by simpa using he
        go_wp2_with (at_builtin; refine wpList_appS rfl (.tmp 13) (.tmp 15) rfl w.heap.size _ (kidsTo kid k) rfl (hS.alloc _) wr.heap.size 0 1 1 [kid k] rfl rfl (ssrc1 _ _ _) (by omega) (by have := hb.size; simp; omega) ?_; rintro v' w2 hS2 hb2)
        exact ⟨⟨k + 1, by omega, by go_num, by rw [HK.out]; exact hS2, (Below.allocS hb _).trans hb2⟩, by simp [intOf]; omega⟩
    · have hke : k = 16 := by omega
      subst hke
      go_wp2_with fail
      go_ret
      obtain ⟨x, cap, hv⟩ := hS.form
      rw [hv] at hS
      exact ⟨x, cap, congrArg Ending.returned hv, hS, hb⟩

end Go.Proofs.YtmldonbmjgelnaaDoor
