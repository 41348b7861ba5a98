/- Shelf7, Some, List, Disk. -/
import Derived.Test.YthgjdaomcpinaaaGreatDoorProg
import Derived.Shelf.Strings.Repeat
import Derived.Lib.ConvBytes
import Derived.Deep.AppendSrc
import Derived.Test.YthgjdaomcpinaaaGreatDoorMg4
import Derived.Test.YthgjdaomcpinaaaGreatDoorMg5
import Derived.Test.YthgjdaomcpinaaaGreatDoorMg7
import Derived.Test.YthgjdaomcpinaaaGreatDoorMg9
import Derived.Test.YthgjdaomcpinaaaGreatDoorMg18
import Derived.Test.YthgjdaomcpinaaaGreatDoorMg23
set_option linter.unnecessarySimpa false

/- The laws of the library that the sorts lean on, at this program. -/
set_option linter.unusedVariables false
namespace Go.Proofs.YthgjdaomcpinaaaGreatDoor
open Go.Shelf

def laysRepeat_ren : Go.Shelf.Ren := ⟨fun | 105 => 74 | 212 => 129 | 99 => 130 | 165 => 131 | 166 => 132 | 170 => 133 | 169 => 134 | 263 => 157 | 264 => 158 | 206 => 159 | 240 => 160 | 241 => 161 | 276 => 177 | 277 => 178 | n => n, fun | 9 => 9 | 3 => 3 | 4 => 4 | 20 => 20 | 0 => 0 | 46 => 170 | 109 => 171 | 5 => 5 | 72 => 176 | 76 => 179 | 51 => 196 | 146 => 197 | 53 => 199 | 148 => 200 | 70 => 174 | 37 => 113 | 75 => 178 | 127 => 202 | 164 => 215 | 80 => 87 | n => n, fun | n => n⟩
theorem laysRepeat : Go.Proofs.Lays.n105 Tryz.prog laysRepeat_ren := {
  mixed := by kernel_rfl
  f99 := Tryz.func130.trans (congrArg some (by kernel_rfl))
  f105 := Tryz.func74.trans (congrArg some (by kernel_rfl))
  f165 := Tryz.func131.trans (congrArg some (by kernel_rfl))
  f166 := Tryz.func132.trans (congrArg some (by kernel_rfl))
  f169 := Tryz.func134.trans (congrArg some (by kernel_rfl))
  f170 := Tryz.func133.trans (congrArg some (by kernel_rfl))
  f206 := Tryz.func159.trans (congrArg some (by kernel_rfl))
  f212 := Tryz.func129.trans (congrArg some (by kernel_rfl))
  f240 := Tryz.func160.trans (congrArg some (by kernel_rfl))
  f241 := Tryz.func161.trans (congrArg some (by kernel_rfl))
  f263 := Tryz.func157.trans (congrArg some (by kernel_rfl))
  f264 := Tryz.func158.trans (congrArg some (by kernel_rfl))
  f276 := Tryz.func177.trans (congrArg some (by kernel_rfl))
  f277 := Tryz.func178.trans (congrArg some (by kernel_rfl))
  t0 := Tryz.underlying0
  a0 := Tryz.isAgg0
  z0 := Tryz.sizeOf0
  v0 := Tryz.zeroValue0
  t3 := Tryz.underlying3
  a3 := Tryz.isAgg3
  z3 := Tryz.sizeOf3
  v3 := Tryz.zeroValue3
  t4 := Tryz.underlying4
  a4 := Tryz.isAgg4
  z4 := Tryz.sizeOf4
  v4 := Tryz.zeroValue4
  t5 := Tryz.underlying5
  a5 := Tryz.isAgg5
  z5 := Tryz.sizeOf5
  v5 := Tryz.zeroValue5
  t9 := Tryz.underlying9
  a9 := Tryz.isAgg9
  z9 := Tryz.sizeOf9
  v9 := Tryz.zeroValue9
  t20 := Tryz.underlying20
  a20 := Tryz.isAgg20
  z20 := Tryz.sizeOf20
  v20 := Tryz.zeroValue20
  t37 := Tryz.underlying113
  a37 := Tryz.isAgg113
  z37 := Tryz.sizeOf113
  v37 := Tryz.zeroValue113
  t46 := Tryz.underlying170
  a46 := Tryz.isAgg170
  z46 := Tryz.sizeOf170
  v46 := Tryz.zeroValue170
  t51 := Tryz.underlying196
  a51 := Tryz.isAgg196
  z51 := Tryz.sizeOf196
  v51 := Tryz.zeroValue196
  t53 := Tryz.underlying199
  a53 := Tryz.isAgg199
  z53 := Tryz.sizeOf199
  v53 := Tryz.zeroValue199
  t70 := Tryz.underlying174
  a70 := Tryz.isAgg174
  z70 := Tryz.sizeOf174
  v70 := Tryz.zeroValue174
  t72 := Tryz.underlying176
  a72 := Tryz.isAgg176
  z72 := Tryz.sizeOf176
  v72 := Tryz.zeroValue176
  t75 := Tryz.underlying178
  a75 := Tryz.isAgg178
  z75 := Tryz.sizeOf178
  v75 := Tryz.zeroValue178
  t76 := Tryz.underlying179
  a76 := Tryz.isAgg179
  z76 := Tryz.sizeOf179
  v76 := Tryz.zeroValue179
  t109 := Tryz.underlying171
  a109 := Tryz.isAgg171
  z109 := Tryz.sizeOf171
  v109 := Tryz.zeroValue171
  t127 := Tryz.underlying202
  a127 := Tryz.isAgg202
  z127 := Tryz.sizeOf202
  v127 := Tryz.zeroValue202
  t146 := Tryz.underlying197
  a146 := Tryz.isAgg197
  z146 := Tryz.sizeOf197
  v146 := Tryz.zeroValue197
  t148 := Tryz.underlying200
  a148 := Tryz.isAgg200
  z148 := Tryz.sizeOf200
  v148 := Tryz.zeroValue200
  t164 := Tryz.underlying215
  a164 := Tryz.isAgg215
  z164 := Tryz.sizeOf215
  v164 := Tryz.zeroValue215 }

end Go.Proofs.YthgjdaomcpinaaaGreatDoor

/- The law's some: a header of a height, with a set behind it. The program's walk. -/
set_option linter.unusedSimpArgs false
set_option linter.unusedVariables false
namespace Go.Proofs.YthgjdaomcpinaaaGreatDoor
open Go.RowKit Go.Shelf Pl

theorem repExtra : Builder.Extra Tryz.prog laysRepeat_ren := {
  sizeBuilder := by kernel_rfl
  liesBuilder := by kernel_rfl
  t5 := laysRepeat.t5
  a5 := laysRepeat.a5
  z5 := laysRepeat.z5
  v5 := laysRepeat.v5
  infoByte := by kernel_rfl
  cellsByte := by kernel_rfl
  sizeByte := by kernel_rfl
  neB5 := by decide }
namespace Pl
def ds : Bs := List.replicate 32 100
def oneA : List (Bs × Int) := [([97], 1)]
/-- A header of a height, with a set behind it, trusted since a moment. -/
def someT (h now : Int) : Tr := ⟨⟨2 * h + 1, 1, 1, true, ds, [], [], ds, ds, dgM oneA, []⟩, oneA, now⟩
end Pl
theorem rep_d (w : World) : Calls Tryz.prog 74 #[.string { data := #[100] }, .int .i64 (32)] w fun e w' => e = .returned (.string ⟨List.toArray (ds)⟩) ∧ Below w.heap.size w w' := by
  have h := Any.strings_Repeat laysRepeat repExtra ⟨#[100]⟩ 32 w (by omega) (by decide)
  refine h.mono ?_
  rintro e w' ⟨rfl, hb⟩
  exact ⟨by rfl, hb⟩
theorem MRow.one (w : World) (base : Nat) (hb : base ≤ w.heap.size) (n : Bs) (p : Int) : MRow (w.alloc (.cells #[.string ⟨List.toArray (n)⟩, .int .i64 (p)] 130)) base (.slice (some ⟨w.heap.size, 0, none⟩) 1 1) [(n, p)] :=
  ⟨by simp [mv], .inr ⟨w.heap.size, 1, #[.string ⟨List.toArray (n)⟩, .int .i64 (p)], rfl, hb, heap_alloc_new w _, Nat.le_refl _, by decide, rfl, by simp [mv]⟩⟩
set_option maxRecDepth 100000 in
set_option maxHeartbeats 4000000 in
theorem some_any (h now : Int) (w : World) (h0 : 0 ≤ h) (h1 : h ≤ 1000000) (hk : KT w) :
    Calls Tryz.prog 28 #[.int .i64 (h), .int .i64 (now)] w fun e w' => ∃ v, e = .returned v ∧ TRow w' w.heap.size v (someT h now) ∧ Below w.heap.size w w' := by
  have e1 : IntKind.i64.wrap (2 * h) = 2 * h := by rw [IntKind.wrap_i64]; omega
  have e2 : IntKind.i64.wrap (2 * h + 1) = 2 * h + 1 := by rw [IntKind.wrap_i64]; omega
  have Z0 : Blk (w.alloc (.cells #[.int .i64 (0), .int .i64 (0), .int .i64 (0), .bool false, .string ⟨List.toArray ([])⟩, .string ⟨List.toArray ([])⟩, .string ⟨List.toArray ([])⟩, .string ⟨List.toArray ([])⟩, .string ⟨List.toArray ([])⟩, .string ⟨List.toArray ([])⟩, .slice none 0 0, .slice none 0 0, .int .i64 (0)] 27)) w.heap.size (List.toArray [.int .i64 (0), .int .i64 (0), .int .i64 (0), .bool false, .string ⟨List.toArray ([])⟩, .string ⟨List.toArray ([])⟩, .string ⟨List.toArray ([])⟩, .string ⟨List.toArray ([])⟩, .string ⟨List.toArray ([])⟩, .string ⟨List.toArray ([])⟩, .slice none 0 0, .slice none 0 0, .int .i64 (0)]) := Blk.new _ _ _
  have hb0 : Below w.heap.size w (w.alloc (.cells #[.int .i64 (0), .int .i64 (0), .int .i64 (0), .bool false, .string ⟨List.toArray ([])⟩, .string ⟨List.toArray ([])⟩, .string ⟨List.toArray ([])⟩, .string ⟨List.toArray ([])⟩, .string ⟨List.toArray ([])⟩, .string ⟨List.toArray ([])⟩, .slice none 0 0, .slice none 0 0, .int .i64 (0)] 27)) := Below.allocS (Below.refl _ _) _
  have q1 := rep_d (w.alloc (.cells #[.int .i64 (0), .int .i64 (0), .int .i64 (0), .bool false, .string ⟨List.toArray ([])⟩, .string ⟨List.toArray ([])⟩, .string ⟨List.toArray ([])⟩, .string ⟨List.toArray ([])⟩, .string ⟨List.toArray ([])⟩, .string ⟨List.toArray ([])⟩, .slice none 0 0, .slice none 0 0, .int .i64 (0)] 27))
  have q2 := fun (v : Value) (W : World) (hv : MS W v oneA) (hb : Below w.heap.size w W) => mdigest_any v oneA W hv (hk.keep hb)
  rw [show someT h now = ⟨⟨2 * h + 1, 1, 1, true, ds, [], [], ds, ds, dgM oneA, []⟩, oneA, now⟩ from rfl]
  generalize dgM oneA = D at *
  generalize ds = dd at *
  go_enter Tryz.func28, Tryz.ntmps28
  go_wp2_with fail
  refine q1.mono ?_
  rintro e w1 ⟨rfl, hb⟩
  have Z1 := Z0.keep hb
  have hs1 : w.heap.size + 1 ≤ w1.heap.size := by have := hb.size; simpa using this
  have hb1 := hb0.trans (hb.mono hb0.size)
  have r1 : MRow (w1.alloc (.cells #[.string ⟨List.toArray ([97])⟩, .int .i64 (1)] 130)) (w.heap.size + 1) (.slice (some ⟨w1.heap.size, 0, none⟩) 1 1) oneA := MRow.one w1 _ hs1 [97] 1
  have hb2 := Below.allocS hb1 (.cells #[.string ⟨List.toArray ([97])⟩, .int .i64 (1)] 130)
  have Z2 := Z1.alloc (.cells #[.string ⟨List.toArray ([97])⟩, .int .i64 (1)] 130)
  have q2 := q2 _ _ r1.ms hb2
  clear q1 hb Z0 hb0
  go_wp2_with fail
  refine q2.mono ?_
  rintro e w3 ⟨rfl, hb⟩
  have Z3 := (Z2.keep hb).alloc (.cells #[.int .i64 (0), .int .i64 (0), .int .i64 (0), .bool false, .string ⟨List.toArray ([])⟩, .string ⟨List.toArray ([])⟩, .string ⟨List.toArray ([])⟩, .string ⟨List.toArray ([])⟩, .string ⟨List.toArray ([])⟩, .string ⟨List.toArray ([])⟩, .slice none 0 0] 24)
  have hb3 := hb2.trans (hb.mono hb2.size)
  have hb4 := Below.allocS hb3 (.cells #[.int .i64 (0), .int .i64 (0), .int .i64 (0), .bool false, .string ⟨List.toArray ([])⟩, .string ⟨List.toArray ([])⟩, .string ⟨List.toArray ([])⟩, .string ⟨List.toArray ([])⟩, .string ⟨List.toArray ([])⟩, .string ⟨List.toArray ([])⟩, .slice none 0 0] 24)
  have r3 := r1.keep hb
  have r4 := r3.alloc (.cells #[.int .i64 (0), .int .i64 (0), .int .i64 (0), .bool false, .string ⟨List.toArray ([])⟩, .string ⟨List.toArray ([])⟩, .string ⟨List.toArray ([])⟩, .string ⟨List.toArray ([])⟩, .string ⟨List.toArray ([])⟩, .string ⟨List.toArray ([])⟩, .slice none 0 0] 24)
  have hs4 : w1.heap.size + 1 ≤ w3.heap.size := by have := hb.size; simpa using this
  have hs3 : w.heap.size + 1 ≤ w3.heap.size := by have := hb.size; simp at this; omega
  clear q2 hb Z2 Z1 hb1 hb2 r1 r3 hb3
  go_wp2_with (first | (refine wpList_rowStore row_head rfl rfl (.tmp 7) (.tmp 19) rfl rfl rfl (vs := [.int .i64 (2 * h + 1), .int .i64 (1), .int .i64 (1), .bool true, .string ⟨List.toArray (dd)⟩, .string ⟨List.toArray ([])⟩, .string ⟨List.toArray ([])⟩, .string ⟨List.toArray (dd)⟩, .string ⟨List.toArray (dd)⟩, .string ⟨List.toArray (D)⟩, .slice none 0 0]) rfl (by simp [Value.oneCell']) (us := [.int .i64 (0), .int .i64 (0), .int .i64 (0), .bool false, .string ⟨List.toArray ([])⟩, .string ⟨List.toArray ([])⟩, .string ⟨List.toArray ([])⟩, .string ⟨List.toArray ([])⟩, .string ⟨List.toArray ([])⟩, .string ⟨List.toArray ([])⟩, .slice none 0 0]) rfl (Blk.new' (by simp)) ?_; intro w5 N5 m5; have Z5 := Z3.mod m5 (by simp; omega)) | (refine wpList_rowLoad row_head rfl (.tmp 7) rfl rfl (vs := [.int .i64 (2 * h + 1), .int .i64 (1), .int .i64 (1), .bool true, .string ⟨List.toArray (dd)⟩, .string ⟨List.toArray ([])⟩, .string ⟨List.toArray ([])⟩, .string ⟨List.toArray (dd)⟩, .string ⟨List.toArray (dd)⟩, .string ⟨List.toArray (D)⟩, .slice none 0 0]) rfl N5 ?_) | (refine wpList_rowStore row_trust rfl rfl (.tmp 4) (.tmp 23) rfl rfl rfl (vs := [.int .i64 (2 * h + 1), .int .i64 (1), .int .i64 (1), .bool true, .string ⟨List.toArray (dd)⟩, .string ⟨List.toArray ([])⟩, .string ⟨List.toArray ([])⟩, .string ⟨List.toArray (dd)⟩, .string ⟨List.toArray (dd)⟩, .string ⟨List.toArray (D)⟩, .slice none 0 0, .slice (some ⟨w1.heap.size, 0, none⟩) 1 1, .int .i64 (now)]) rfl (by simp [Value.oneCell']) (us := [.int .i64 (0), .int .i64 (0), .int .i64 (0), .bool false, .string ⟨List.toArray ([])⟩, .string ⟨List.toArray ([])⟩, .string ⟨List.toArray ([])⟩, .string ⟨List.toArray ([])⟩, .string ⟨List.toArray ([])⟩, .string ⟨List.toArray ([])⟩, .slice none 0 0, .slice none 0 0, .int .i64 (0)]) rfl Z5 ?_; intro w6 N6 m6))
  have hb5 := Below.mod hb4 m5 hb4.size (by simp; omega)
  have r5 := r4.kept (fun k hk => m5.block k (by cases hk; simp; omega) (by cases hk; simp; omega))
  have hld := row_loadVar row_trust w6 (vs := [.int .i64 (2 * h + 1), .int .i64 (1), .int .i64 (1), .bool true, .string ⟨List.toArray (dd)⟩, .string ⟨List.toArray ([])⟩, .string ⟨List.toArray ([])⟩, .string ⟨List.toArray (dd)⟩, .string ⟨List.toArray (dd)⟩, .string ⟨List.toArray (D)⟩, .slice none 0 0, .slice (some ⟨w1.heap.size, 0, none⟩) 1 1, .int .i64 (now)]) rfl N6
  refine bodyPost_ret (results_cell1 rfl _ _ _ _ rfl hld) rfl ?_
  exact ⟨_, rfl, ⟨_, _, rfl, SRow.nil _ _, MRow.low (MRow.mod r5 m6 (by omega)) (by omega)⟩, Below.mod hb5 m6 hb5.size (by simp)⟩
end Go.Proofs.YthgjdaomcpinaaaGreatDoor

/- Walks of layer 2: lists. -/
set_option linter.unusedSimpArgs false
set_option linter.unusedVariables false
namespace Go.Proofs.YthgjdaomcpinaaaGreatDoor
open Go.RowKit Pl

/-- v is a slice of a block from base on, with these bytes; none of its cells is frozen. -/
def BOwn (w : World) (base : Nat) (v : Value) (l : Bs) : Prop :=
  ∃ g cap, v = .slice (some ⟨g, 0, none⟩) l.length cap ∧ base ≤ g ∧ g < w.heap.size ∧ l.length ≤ cap ∧ cap ≤ maxLen ∧
    (∀ i, i < l.length → w.cell? ⟨g, i, none⟩ = some (.int .u8 ((l.getD i 0).toNat : Int))) ∧ ∀ i, i < cap → (w.cell? ⟨g, i, none⟩).isSome = true ∧ w.frozen? ⟨g, i, none⟩ = false
theorem BOwn.keep {W w : World} {base : Nat} {v : Value} {l : Bs} (h : BOwn W base v l) (hb : Below W.heap.size W w) : BOwn w base v l := by
  obtain ⟨g, cap, h1, h2, h3, h4, h5, h6, h7⟩ := h
  exact ⟨g, cap, h1, h2, Nat.lt_of_lt_of_le h3 hb.size, h4, h5, fun i hi => (hb.cell (p := ⟨g, i, none⟩) h3).trans (h6 i hi), fun i hi => ⟨by rw [hb.cell (p := ⟨g, i, none⟩) h3]; exact (h7 i hi).1, (hb.frozen (p := ⟨g, i, none⟩) h3).trans (h7 i hi).2⟩⟩
theorem BOwn.conv {w : World} {base : Nat} {v : Value} {l : Bs} (h : BOwn w base v l) : (convert 113 9 v).run Tryz.prog w = .ok (.string ⟨List.toArray (l)⟩) w := by
  obtain ⟨g, cap, rfl, h2, h3, h4, h5, h6, h7⟩ := h
  exact conv_str 113 5 9 Tryz.underlying113 Tryz.underlying5 Tryz.underlying9 g 0 l.length cap l rfl (fun i hi => by simpa using h6 i hi)
theorem bs_size (s : Bs) : (⟨s.toArray⟩ : ByteArray).size = s.length := by simp [ByteArray.size]
theorem bcells_at (s : Bs) (j : Nat) (hj : j < s.length) : (byteCells ⟨s.toArray⟩)[j]? = some (.int .u8 ((s.getD j 0).toNat : Int)) := by
  simp [byteCells, List.getD, List.getElem?_eq_getElem hj]

/-- '[]byte(s)'. -/
theorem run_conv_own (w : World) (s : Bs) (base : Nat) (hbase : base ≤ w.heap.size) (hs : s.length ≤ maxLen) :
    ∃ v w', (convert 9 113 (.string ⟨List.toArray (s)⟩)).run Tryz.prog w = .ok v w' ∧ BOwn w' base v s ∧ Below base w w' := by
  have hr := Lib.run_convert_string_bytes (P := Tryz.prog) w 9 113 5 ⟨s.toArray⟩ Tryz.underlying9 Tryz.underlying113 Tryz.underlying5
  have hz := bs_size s
  have hge := grownCap_ge w s.length 0 5
  have hle := grownCap_le_maxLen w s.length 0 5 hs
  have hcs : (Lib.bytesCells w 5 ⟨s.toArray⟩).size = grownCap w s.length 0 5 := by
    simp only [Lib.bytesCells, hz, Array.size_append, Array.size_map, Array.size_replicate, List.size_toArray]
    omega
  rw [hz] at hr
  refine ⟨_, _, hr, ⟨w.heap.size, _, rfl, hbase, by rw [Lib.bytesWorld_size]; omega, hge, hle, fun i hi => ?_, fun i hi => ?_⟩, ⟨rfl, rfl, rfl, by rw [Lib.bytesWorld_size]; omega, fun k hk => Lib.bytesWorld_at_old w _ _ k (by omega)⟩⟩
  · have h := Lib.bytesWorld_cell w 5 ⟨s.toArray⟩ i (by rw [hz]; exact hi)
    exact h
  · have hat := Lib.bytesWorld_at_new w 5 ⟨s.toArray⟩
    refine ⟨?_, ?_⟩
    · simp only [World.cell?, hat]
      simp [hcs, hi]
    · simp only [World.frozen?, hat, hcs]
      simp; omega

/-- append(v, s...) of a text's bytes. -/
theorem run_app_own (w : World) (base : Nat) (v : Value) (l news : Bs) (ty : TypeId) (h : BOwn w base v l) (hbase : base ≤ w.heap.size) (hlen : l.length + news.length ≤ 140737488355328) :
    ∃ v' w', (Builtin.append_ #[113, 9] ty #[v, .string ⟨List.toArray (news)⟩]).run Tryz.prog w = .ok v' w' ∧ BOwn w' base v' (l ++ news) ∧ Below base w w' := by
  obtain ⟨i0, hi, hz0, hz1, hz2⟩ := info_parts infoU8
  obtain ⟨g, cap, rfl, h2, h3, h4, h5, h6, h7⟩ := h
  have hz := bs_size news
  have hsrc := Src.ofString (P := Tryz.prog) w (tx := 9) Tryz.underlying9 ⟨news.toArray⟩
  rw [hz, ← hz1] at hsrc
  have hnl : (byteCells ⟨news.toArray⟩).length = news.length := by rw [byteCells_length, hz]
  by_cases hroom : l.length + news.length ≤ cap
  · have hth : ∀ j, j < (byteCells ⟨news.toArray⟩).length → (w.cell? ⟨g, l.length + j, none⟩).isSome = true := fun j hj => (h7 _ (by omega)).1
    have hr := run_append_room_src (P := Tryz.prog) w 113 9 ty 5 i0 Tryz.underlying113 hi g 0 l.length cap _ news.length _ hsrc hroom (fun j hj => by rw [hz1, Nat.mul_one, Nat.zero_add]; exact hth j hj) (fun j hj => by rw [hz1, Nat.mul_one, Nat.zero_add]; exact (h7 _ (by omega)).2)
    rw [hz1, Nat.mul_one, Nat.zero_add] at hr
    refine ⟨_, _, hr, ⟨g, cap, by rw [List.length_append], h2, ?_, by rw [List.length_append]; exact hroom, h5, fun i hi => ?_, fun i hi => ⟨?_, ?_⟩⟩, ?_⟩
    · exact Nat.lt_of_lt_of_le h3 (Mod.setCellsL g _ _ w).size
    · by_cases hil : i < l.length
      · rw [World.cell?_setCells_out g _ _ w _ (fun _ _ => .inl (by show i < l.length; omega)), h6 i hil]
        simp [List.getD, List.getElem?_append_left hil]
      · obtain ⟨j, rfl⟩ : ∃ j, i = l.length + j := ⟨i - l.length, by omega⟩
        have hj : j < news.length := by simp at hi; omega
        rw [World.cell?_setCells_in g _ _ w hth j (by omega), ← List.getElem?_eq_getElem, bcells_at news j hj]
        simp [List.getD, List.getElem?_append_right]
    · by_cases hin : l.length ≤ i ∧ i < l.length + news.length
      · obtain ⟨j, rfl⟩ : ∃ j, i = l.length + j := ⟨i - l.length, by omega⟩
        rw [World.cell?_setCells_in g _ _ w hth j (by omega)]
        rfl
      · rw [World.cell?_setCells_out g _ _ w _ (fun _ _ => (show i < l.length ∨ l.length + _ ≤ i by omega))]
        exact (h7 i hi).1
    · rw [World.frozen?_setCells]
      exact (h7 i hi).2
    · exact Below.mod (Below.refl _ _) (Mod.setCellsL g _ _ w) hbase (by simpa using h2)
  · have hge := grownCap_ge w (l.length + news.length) cap 5
    have hle := grownCap_le_maxLen w (l.length + news.length) cap 5 (by unfold maxLen; omega)
    have hr := run_append_grow_src (P := Tryz.prog) w 113 9 ty 5 i0 (.int .u8 0) Tryz.underlying113 hi hz0 (some ⟨g, 0, none⟩) l.length cap (bv l) (by
        rw [hz1]
        refine run_firstCells_some w.drew 1 l.length ⟨g, 0, none⟩ l.length cap (bv l) (by rw [bv_len]; omega) (fun j u hu => ?_)
        have hj : j < l.length := by
          have := (List.getElem?_eq_some_iff.1 hu).1
          rw [bv_len] at this; exact this
        rw [Addr.add_lit, Nat.zero_add]
        refine (h6 j hj).trans ?_
        rw [← hu]
        simp [bv, List.getD, List.getElem?_eq_getElem hj]) _ news.length _ hsrc (by omega) (by omega) (by
        rw [hz2]
        have := nextslicecap_le (show cap < l.length + news.length by omega)
        omega)
    refine ⟨_, _, hr, ⟨w.heap.size, _, by rw [List.length_append], hbase, by simp, by rw [List.length_append]; exact hge, hle, fun i hi => ?_, fun i hi => ⟨?_, ?_⟩⟩, ?_⟩
    · have hx : ((bv l ++ byteCells ⟨news.toArray⟩).toArray ++ Builtin.zeroCells (Value.int .u8 0).cells (grownCap w (l.length + news.length) cap 5 - (l.length + news.length)))[i]? = some (.int .u8 (((l ++ news).getD i 0).toNat : Int)) := by
        rw [List.length_append] at hi
        rw [Array.getElem?_append_left (by simp [bv_len, hnl]; omega)]
        simp only [List.getElem?_toArray]
        by_cases hil : i < l.length
        · rw [List.getElem?_append_left (by rw [bv_len]; exact hil)]
          simp [bv, List.getD, List.getElem?_eq_getElem hil, List.getElem?_append_left hil]
        · obtain ⟨j, rfl⟩ : ∃ j, i = l.length + j := ⟨i - l.length, by omega⟩
          rw [List.getElem?_append_right (by rw [bv_len]; omega), bv_len, Nat.add_sub_cancel_left, bcells_at news j (by omega)]
          simp [List.getD, List.getElem?_append_right]
      exact (Blk.new w.drew _ 5).cell i |>.trans hx
    · have hx : i < ((bv l ++ byteCells ⟨news.toArray⟩).toArray ++ Builtin.zeroCells (Value.int .u8 0).cells (grownCap w (l.length + news.length) cap 5 - (l.length + news.length))).size := by
        simp [bv_len, hnl, size_zeroCells, Value.cells]
        omega
      show ((w.drew.alloc _).cell? ⟨w.drew.heap.size, i, none⟩).isSome = true
      rw [(Blk.new w.drew _ 5).cell i, Array.getElem?_eq_getElem hx]
      rfl
    · exact (Blk.new w.drew _ 5).froz i
    · exact (Below.refl _ _).drew.alloc hbase _

section
variable {ops : Array Oper} {o : Oper} {rest : List Oper} {a : Act} {w : World} {Q : Exit → Act → World → Prop}
theorem wpList_convO (hgd : o.guard = none) (x : Operand) (ho : o.op = .convert 9 113 x) (s : Bs) (hx : a.eval x = .string ⟨List.toArray (s)⟩) (base : Nat) (hbase : base ≤ w.heap.size) (hs : s.length ≤ maxLen)
    (h : ∀ v' w', BOwn w' base v' s → Below base w w' → wpList Tryz.prog ops Q rest (a.put o.dst v') w') : wpList Tryz.prog ops Q (o :: rest) a w := by
  refine wpList_plain hgd fun K hK => ?_
  obtain ⟨v, w', hr, h2, h3⟩ := run_conv_own w s base hbase hs
  unfold Oper.wp execOp
  simp only [ho, hx, Sem.run_bind, Sem.run_pure, Result.andThen_ok, hr]
  exact hK _ _ (h v w' h2 h3)
theorem wpList_appO (hgd : o.guard = none) (s x : Operand)
    (ho : o.op = .call { callee := .builtin .append, args := #[s, x], argTypes := #[113, 9] })
    (base : Nat) (v : Value) (l : Bs) (hs : a.eval s = v) (hown : BOwn w base v l) (news : Bs) (hx : a.eval x = .string ⟨List.toArray (news)⟩)
    (hlen : l.length + news.length ≤ 140737488355328) (hbase : base ≤ w.heap.size)
    (h : ∀ v' w', BOwn w' base v' (l ++ news) → Below base w w' → wpList Tryz.prog ops Q rest (a.put o.dst v') w') : wpList Tryz.prog ops Q (o :: rest) a w := by
  refine wpList_plain hgd fun K hK => ?_
  obtain ⟨v', w', hr, h2, h3⟩ := run_app_own w base v l news o.type hown hbase hlen
  unfold Oper.wp execOp
  simp only [ho, resolve, invoke, builtin, Sem.run_bind, Sem.run_pure, Result.andThen_ok, List.map_toArray, List.map_cons, List.map_nil, hs, hx, hr]
  exact hK _ _ (h v' w' h2 h3)
end

set_option maxRecDepth 100000 in
set_option maxHeartbeats 400000 in
theorem clist_any (v : Value) (l : List Bs) (w : World) (hn : l.length ≤ 1000) (hl : ∀ i, i < l.length → (l.getD i []).length ≤ 1000000) (hv : SS w v l) :
    Calls Tryz.prog 176 #[v] w fun e w' => e = .returned (.string ⟨List.toArray (encS l)⟩) ∧ Below w.heap.size w w' := by
  generalize hr : encS l = r
  have HR := Lib.hid hr
  clear hr
  obtain ⟨a, c, rfl⟩ := hv.form
  have HV := Lib.hid hv
  have HL := Lib.hid hl
  have HB := Lib.hid (listB_len l 1000000 hl)
  clear hv hl
  go_enter Tryz.func176, Tryz.ntmps176
  go_wp2_with fail
  refine (cnum_any l.length (by omega) _).mono ?_
  rintro e w1 ⟨rfl, hb⟩
  have hn9 := num_len l.length
  have hws := hb.size
  go_wp2_with (first
    | (refine wpList_convO rfl (.tmp 8) rfl _ rfl w.heap.size hws (by unfold maxLen; omega) ?_; rintro v2 w2 hO hb2)
    | fail)
  have hb3 := hb.trans hb2
  clear hb hb2 hws
  go_wp2_with fail
  go_loopw [3, 12] (fun s3 s12 wr => ∃ i : Nat, i ≤ l.length ∧ s12 = .int .i64 i ∧ BOwn wr w.heap.size s3 (num l.length ++ listB (l.take i)) ∧ Below w.heap.size w wr) (fun _ s12 _ => l.length - (intOf s12).toNat)
  case atStart => exact ⟨0, by omega, rfl, by simpa [listB] using hO, hb3⟩
  case round =>
    obtain ⟨i, hi, rfl, hO, hb⟩ := hrel
    obtain ⟨wq, h⟩ := Below.nm hb
    subst h
    by_cases hlt : i < l.length
    · obtain ⟨g, off, rfl, c1⟩ := (HV.out.keep hb).at i hlt
      have o1 := HL.out i hlt
      have hB := HB.out i (by omega)
      have hnx : num l.length ++ listB (l.take (i + 1)) = num l.length ++ listB (l.take i) ++ num (l.getD i []).length ++ l.getD i [] := by
        rw [takeS l i hlt, listB_app, text]
        simp only [List.append_assoc]
      have hs9 : (num l.length ++ listB (l.take i)).length ≤ 1100000000 := by rw [List.length_append]; have : i ≤ 1000 := (by omega); omega
      generalize hx : l.getD i [] = x at *
      generalize num l.length ++ listB (l.take i) = s at *
      have hx9 := num_len x.length
      clear hx hB HB
      go_wp2_with fail
      refine (cnum_any x.length (by omega) _).mono ?_
      rintro e w4 ⟨rfl, hb4⟩
      have hO4 := hO.keep hb4
      have hb5 := hb.trans (hb4.mono hb.size)
      have hz5 := hb5.size
      go_wp2_with (first
        | (at_builtin; refine wpList_appO rfl (.tmp 16) (.tmp 19) rfl w.heap.size _ s rfl hO4 _ rfl (by omega) hz5 ?_; rintro v6 w6 hO6 hb6; have hz6 := hb6.size)
        | (at_builtin; refine wpList_appO rfl (.tmp 21) (.tmp 22) rfl w.heap.size _ _ rfl hO6 _ rfl (by rw [List.length_append]; omega) (by omega) ?_; rintro v7 w7 hO7 hb7)
        | fail)
      exact ⟨⟨i + 1, by omega, by go_num, by rw [hnx]; exact hO7, (hb5.trans hb6).trans hb7⟩, by simp [intOf]; omega⟩
    · obtain rfl : i = l.length := by omega
      have hc := hO.conv
      rw [List.take_length] at hc
      go_wp2_with fail
      all_goals (go_ret; refine ⟨?_, hb⟩; rw [← HR.out]; rfl)
end Go.Proofs.YthgjdaomcpinaaaGreatDoor

/- Layer 31: a disk: what it is, plain, and the program's walks: New, change, Sync, Read. -/
set_option linter.unusedSimpArgs false
set_option linter.unusedVariables false
namespace Go.Proofs.YthgjdaomcpinaaaGreatDoor
open Go.RowKit Pl

namespace Pl
structure Dk where
  s : Bs
  safe : Int
  room : Int
  fuse : Int
  down : Bool
/-- A change is to be made: the disk then, and the code. -/
def burntD (d : Dk) : Dk × Int := if d.fuse = 0 then (⟨d.s, d.safe, d.room, d.fuse, true⟩, 311) else if 0 < d.fuse then (⟨d.s, d.safe, d.room, d.fuse - 1, d.down⟩, 0) else (d, 0)
theorem burnt_zero {d : Dk} (h : d.fuse = 0) : burntD d = (⟨d.s, d.safe, d.room, d.fuse, true⟩, 311) := if_pos h
theorem burnt_pos {d : Dk} (h : 0 < d.fuse) : burntD d = (⟨d.s, d.safe, d.room, d.fuse - 1, d.down⟩, 0) := by unfold burntD; rw [if_neg (by omega), if_pos h]
theorem burnt_neg {d : Dk} (h : d.fuse < 0) : burntD d = (d, 0) := by unfold burntD; rw [if_neg (by omega), if_neg (by omega)]
def syncD (d : Dk) : Dk × Int := if d.down then (d, 311) else if (burntD d).2 = 0 then (⟨d.s, d.s.length, d.room, (burntD d).1.fuse, d.down⟩, 0) else burntD d
end Pl

/-- v is a slice of a block that is none of av, with these bytes; none of its cells is frozen. -/
def BOwv (w : World) (av : List Nat) (v : Value) (l : Bs) : Prop :=
  ∃ g cap, v = .slice (some ⟨g, 0, none⟩) l.length cap ∧ g ∉ av ∧ g < w.heap.size ∧ l.length ≤ cap ∧ cap ≤ maxLen ∧
    (∀ i, i < l.length → w.cell? ⟨g, i, none⟩ = some (.int .u8 ((l.getD i 0).toNat : Int))) ∧ ∀ i, i < cap → (w.cell? ⟨g, i, none⟩).isSome = true ∧ w.frozen? ⟨g, i, none⟩ = false
theorem BOwv.own {w : World} {av : List Nat} {v : Value} {l : Bs} (h : BOwv w av v l) : BOwn w 0 v l := by
  obtain ⟨g, cap, h1, h2, h3, h4, h5, h6, h7⟩ := h
  exact ⟨g, cap, h1, Nat.zero_le _, h3, h4, h5, h6, h7⟩
theorem BOwv.keep {W w : World} {av : List Nat} {v : Value} {l : Bs} (h : BOwv W av v l) (hb : Below W.heap.size W w) : BOwv w av v l := by
  obtain ⟨g, cap, h1, h2, h3, h4, h5, h6, h7⟩ := h
  exact ⟨g, cap, h1, h2, Nat.lt_of_lt_of_le h3 hb.size, h4, h5, fun i hi => (hb.cell (p := ⟨g, i, none⟩) h3).trans (h6 i hi), fun i hi => ⟨by rw [hb.cell (p := ⟨g, i, none⟩) h3]; exact (h7 i hi).1, (hb.frozen (p := ⟨g, i, none⟩) h3).trans (h7 i hi).2⟩⟩
/-- A disk's bytes: nil, or a slice of a block that nobody writes, none of av. -/
def DB (w : World) (av : List Nat) (v : Value) (t : Bs) : Prop := (v = .slice none 0 0 ∧ t = []) ∨ BOwv w av v t
theorem DB.keep {W w : World} {av : List Nat} {v : Value} {t : Bs} (h : DB W av v t) (hb : Below W.heap.size W w) : DB w av v t := h.imp id (fun h => h.keep hb)
theorem BOwv.modl {w w' : World} {av m : List Nat} {v : Value} {l : Bs} (h : BOwv w av v l) (hm : Mod m w w') (hp : ∀ x ∈ m, x ∈ av) : BOwv w' av v l := by
  obtain ⟨g, cap, h1, h2, h3, h4, h5, h6, h7⟩ := h
  have hb : w'.heap[g]? = w.heap[g]? := hm.block g h3 (fun hi => h2 (hp g hi))
  have hc : ∀ o, w'.cell? ⟨g, o, none⟩ = w.cell? ⟨g, o, none⟩ := fun o => World.cell?_of_block (a := ⟨g, o, none⟩) hb
  have hf : ∀ o, w'.frozen? ⟨g, o, none⟩ = w.frozen? ⟨g, o, none⟩ := fun o => by unfold World.frozen?; rw [hb]
  exact ⟨g, cap, h1, h2, Nat.lt_of_lt_of_le h3 hm.size, h4, h5, fun i hi => by rw [hc]; exact h6 i hi, fun i hi => by rw [hc, hf]; exact h7 i hi⟩
theorem DB.modl {w w' : World} {av m : List Nat} {v : Value} {t : Bs} (h : DB w av v t) (hm : Mod m w w') (hp : ∀ x ∈ m, x ∈ av) : DB w' av v t := h.imp id (fun h => h.modl hm hp)
theorem DB.mod {w w' : World} {av : List Nat} {p : Nat} {v : Value} {t : Bs} (h : DB w av v t) (hm : Mod [p] w w') (hp : p ∈ av) : DB w' av v t := h.modl hm (fun x hx => by rw [List.mem_singleton] at hx; rw [hx]; exact hp)
theorem DB.more {w : World} {av : List Nat} {x : Nat} {v : Value} {t : Bs} (h : DB w av v t) (hx : w.heap.size ≤ x) : DB w (x :: av) v t := by
  refine h.imp id (fun h => ?_)
  obtain ⟨g, cap, h1, h2, h3, h4⟩ := h
  exact ⟨g, cap, h1, fun hi => by rcases List.mem_cons.1 hi with e | e; · omega
                                  · exact h2 e, h3, h4⟩
theorem DB.form {w : World} {av : List Nat} {v : Value} {t : Bs} (h : DB w av v t) : ∃ a c, v = .slice a t.length c := by
  rcases h with ⟨rfl, rfl⟩ | ⟨g, cap, h1, _⟩
  · exact ⟨none, 0, rfl⟩
  · exact ⟨_, cap, h1⟩
theorem DB.small {w : World} {av : List Nat} {v : Value} {t : Bs} (h : DB w av v t) : t.length ≤ 9223372036854775807 := by
  rcases h with ⟨rfl, rfl⟩ | ⟨g, cap, h1, _, _, h4, h5, _⟩
  · simp
  · unfold maxLen at h5; omega
theorem DB.conv {w : World} {av : List Nat} {v : Value} {t : Bs} (h : DB w av v t) : (convert 113 9 v).run Tryz.prog w = .ok (.string ⟨List.toArray (t)⟩) w := by
  rcases h with ⟨rfl, rfl⟩ | h
  · exact run_convert_bytes_nil w 113 5 Tryz.underlying113 Tryz.underlying5 0 0 9 Tryz.underlying9
  · exact h.own.conv
/-- A disk at block p, its bytes in none of av. -/
structure DkV (w : World) (av : List Nat) (p : Nat) (d : Dk) : Prop where
  lt : p ∈ av
  row : ∃ v, DB w av v d.s ∧ Blk w p #[v, .int .i64 (d.safe), .int .i64 (d.room), .int .i64 (d.fuse), .bool d.down]
theorem DkV.more {w : World} {av : List Nat} {p x : Nat} {d : Dk} (h : DkV w av p d) (hx : w.heap.size ≤ x) : DkV w (x :: av) p d := by
  obtain ⟨v, h1, h2⟩ := h.row
  exact ⟨List.mem_cons_of_mem _ h.lt, v, h1.more hx, h2⟩
theorem DkV.modl {w w' : World} {av m : List Nat} {p : Nat} {d : Dk} (h : DkV w av p d) (hm : Mod m w w') (hp : ∀ x ∈ m, x ∈ av) (hn : p ∉ m) : DkV w' av p d := by
  obtain ⟨v, h1, h2⟩ := h.row
  exact ⟨h.lt, v, h1.modl hm hp, h2.mod hm hn⟩
theorem DkV.keep {W w : World} {av : List Nat} {p : Nat} {d : Dk} (h : DkV W av p d) (hb : Below W.heap.size W w) : DkV w av p d := by
  obtain ⟨v, h1, h2⟩ := h.row
  exact ⟨h.lt, v, h1.keep hb, h2.keep hb⟩
set_option maxRecDepth 100000 in
set_option maxHeartbeats 1000000 in
theorem dchange_any (av : List Nat) (p : Nat) (d : Dk) (hf : -9223372036854775808 ≤ d.fuse ∧ d.fuse ≤ 9223372036854775807) (w : World) (h : DkV w av p d) :
    Calls Tryz.prog 154 #[.pointer (some ⟨p, 0, none⟩)] w fun e w' => e = .returned (.int .i64 ((burntD d).2)) ∧ DkV w' av p (burntD d).1 ∧ Mod [p] w w' := by
  obtain ⟨v, hv, B⟩ := h.row
  have HL := Lib.hid h.lt
  have HV := Lib.hid hv
  clear h hv
  obtain ⟨s, safe, room, fuse, down⟩ := d
  simp only at hf B HV
  obtain ⟨b1, b2, b3⟩ := id B
  by_cases h0 : fuse = 0
  · subst h0
    rw [burnt_zero rfl]
    go_enter Tryz.func154, Tryz.ntmps154
    go_wp2_with fail
    go_ret
    have hm := (Mod.refl [p] w).setCell (p := ⟨p, 4, none⟩) (.inl (by simp)) (.bool true)
    exact ⟨rfl, ⟨HL.out, v, HV.out.mod hm HL.out, by simpa using B.set 4 (.bool true)⟩, hm⟩
  · have e0 : (fuse == 0) = false := by simpa using h0
    by_cases h1 : 0 < fuse
    · have d1 : decide (0 < fuse) = true := by simpa using h1
      have w1 : IntKind.i64.wrap (fuse - 1) = fuse - 1 := by rw [IntKind.wrap_i64]; omega
      rw [burnt_pos h1]
      clear h0
      go_enter Tryz.func154, Tryz.ntmps154
      go_wp2_with fail
      go_ret
      have hm := (Mod.refl [p] w).setCell (p := ⟨p, 3, none⟩) (.inl (by simp)) (.int .i64 (fuse - 1))
      exact ⟨rfl, ⟨HL.out, v, HV.out.mod hm HL.out, by simpa using B.set 3 (.int .i64 (fuse - 1))⟩, hm⟩
    · have d1 : decide (0 < fuse) = false := by simpa using h1
      rw [burnt_neg (by simp only; omega)]
      clear h0 h1
      go_enter Tryz.func154, Tryz.ntmps154
      go_wp2_with fail
      go_ret
      exact ⟨rfl, ⟨HL.out, v, HV.out, B⟩, Mod.refl _ _⟩
theorem dread_any (av : List Nat) (p : Nat) (d : Dk) (w : World) (h : DkV w av p d) :
    Calls Tryz.prog 43 #[.pointer (some ⟨p, 0, none⟩)] w fun e w' => e = .returned (.string ⟨List.toArray (d.s)⟩) ∧ w' = w := by
  obtain ⟨v, hv, B⟩ := h.row
  obtain ⟨va, vc, rfl⟩ := hv.form
  have hc := hv.conv
  obtain ⟨b1, b2, b3⟩ := id B
  clear h hv B
  go_enter Tryz.func43, Tryz.ntmps43
  go_wp2_with fail
  go_ret
  exact ⟨rfl, rfl⟩
set_option maxRecDepth 100000 in
set_option maxHeartbeats 1000000 in
theorem dsync_any (av : List Nat) (p : Nat) (d : Dk) (hf : -9223372036854775808 ≤ d.fuse ∧ d.fuse ≤ 9223372036854775807) (w : World) (h : DkV w av p d) :
    Calls Tryz.prog 124 #[.pointer (some ⟨p, 0, none⟩)] w fun e w' => e = .returned (.int .i64 ((syncD d).2)) ∧ DkV w' av p (syncD d).1 ∧ Mod [p] w w' := by
  have hch := dchange_any av p d hf w h
  have H := Lib.hid h
  obtain ⟨v, hv, B⟩ := h.row
  obtain ⟨b1, b2, b3⟩ := id B
  cases hd : d.down
  · rw [hd] at b1
    have hs : syncD d = if (burntD d).2 = 0 then (⟨d.s, d.s.length, d.room, (burntD d).1.fuse, d.down⟩, 0) else burntD d := by unfold syncD; rw [hd]; rfl
    have hbs : (burntD d).2 = 0 → (burntD d).1.s = d.s ∧ (burntD d).1.room = d.room ∧ (burntD d).1.down = d.down := by
      intro h0
      unfold burntD at h0 ⊢
      split
      · rename_i h1; rw [if_pos h1] at h0; exact absurd h0 (by simp)
      · split <;> exact ⟨rfl, rfl, rfl⟩
    have HS := Lib.hid hs
    have HB := Lib.hid hbs
    have HD := Lib.hid hd
    clear hs hbs hd h hv B H
    generalize burntD d = x at *
    obtain ⟨d1, c⟩ := x
    simp only at hch
    go_enter Tryz.func124, Tryz.ntmps124
    go_wp2_with fail
    refine hch.mono ?_
    rintro e w1 ⟨rfl, h1, m1⟩
    clear b1 b2 b3 hch
    obtain ⟨v1, hv1, B1⟩ := h1.row
    have HL := Lib.hid h1.lt
    obtain ⟨va, vc, rfl⟩ := hv1.form
    have HV1 := Lib.hid hv1
    have H1 := Lib.hid h1
    clear h1 hv1
    by_cases h0 : c = 0
    · subst h0
      obtain ⟨e1, e2, e3⟩ := HB.out rfl
      obtain ⟨b1, b2, b3⟩ := id B1
      have HR : Hid (syncD d = (⟨d.s, d.s.length, d.room, d1.fuse, d.down⟩, 0)) := Lib.hid (by rw [HS.out]; rfl)
      have HE := Lib.hid (And.intro e1 (And.intro e2 e3))
      clear e1 e2 e3 HS HB
      go_wp2_with fail
      go_ret
      have hm := (Mod.refl [p] w1).setCell (p := ⟨p, 1, none⟩) (.inl (by simp)) (.int .i64 ((d1.s.length : Int)))
      rw [HR.out]
      obtain ⟨e1, e2, e3⟩ := HE.out
      refine ⟨rfl, ⟨HL.out, .slice va d1.s.length vc, ?_, ?_⟩, m1.trans hm⟩
      · have := HV1.out.mod hm HL.out
        rw [e1] at this ⊢
        exact this
      · have := B1.set 1 (.int .i64 ((d1.s.length : Int)))
        rw [← e1, ← e2, ← e3]
        simpa using this
    · have g1 : (c == 0) = false := by simpa using h0
      have g2 : (c != 0) = true := by simpa using h0
      have HR : Hid (syncD d = (d1, c)) := Lib.hid (by rw [HS.out, if_neg h0])
      clear h0 HS HB
      go_wp2_with fail
      go_ret
      rw [HR.out]
      exact ⟨rfl, H1.out, m1⟩
  · rw [hd] at b1
    have HS : Hid (syncD d = (d, 311)) := Lib.hid (by unfold syncD; rw [hd]; rfl)
    clear hd h hv B hch
    go_enter Tryz.func124, Tryz.ntmps124
    go_wp2_with fail
    go_ret
    rw [HS.out]
    exact ⟨rfl, H.out, Mod.refl _ _⟩
set_option maxRecDepth 100000 in
set_option maxHeartbeats 1000000 in
theorem dnew_any (room : Int) (h0 : 0 ≤ room) (h1 : room ≤ 1048576) (w : World) :
    Calls Tryz.prog 17 #[.int .i64 (room)] w fun e w' => e = .returned (.tuple #[.pointer (some ⟨w.heap.size, 0, none⟩), .int .i64 (0)]) ∧ DkV w' [w.heap.size] w.heap.size ⟨[], 0, room, -1, false⟩ ∧ Below w.heap.size w w' := by
  have d1 : decide (room < 0) = false := by rw [decide_eq_false_iff_not]; omega
  have d2 : decide (1048576 < room) = false := by rw [decide_eq_false_iff_not]; omega
  clear h0 h1
  go_enter Tryz.func17, Tryz.ntmps17
  go_wp2_with fail
  go_ret2
  exact ⟨rfl, ⟨by simp, .slice none 0 0, .inl ⟨rfl, rfl⟩, Blk.new _ _ _⟩, Below.allocS (Below.refl _ _) _⟩
end Go.Proofs.YthgjdaomcpinaaaGreatDoor
