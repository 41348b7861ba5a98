/- Some, TWrite, TOpen, TMap, Shelf8, TMapP, Shelf5, OwnT, Own, TAt. -/
import Derived.Sort.KeysCollected
import Derived.Shelf.SlMaps.Clone
import Derived.Shelf.SlicesE.Clone
import Derived.Test.YthgjdaomcpinaaaGreatDoorMp25
set_option linter.unnecessarySimpa false
set_option linter.unusedSimpArgs false
set_option linter.unusedVariables false
set_option maxRecDepth 100000
set_option maxHeartbeats 32000000
namespace Go.Proofs.YthgjdaomcpinaaaGreatDoor
open Go.RowKit Go.Shelf Pl
theorem repExtra : Builder.Extra Tryz.prog laysRepeat_ren := {
 sizeBuilder := by kernel_rfl
 liesBuilder := by kernel_rfl
 t5 := laysRepeat.t5
 a5 := laysRepeat.a5
 z5 := laysRepeat.z5
 v5 := laysRepeat.v5
 infoByte := by kernel_rfl
 cellsByte := by kernel_rfl
 sizeByte := by kernel_rfl
 neB5 := by decide }
namespace Pl
def ds : Bs := List.replicate 32 100
def oneA : List (Bs × Int) := [([97], 1)]
def someT (h now : Int) : Tr := ⟨⟨2 * h + 1, 1, 1, true, ds, [], [], ds, ds, dgM oneA, []⟩, oneA, now⟩
end Pl
theorem rep_d (w : World) : Calls Tryz.prog 74 #[.string { data := #[100] }, .int .i64 32] w fun e w' => e = .returned (.string ⟨List.toArray ds⟩) ∧ Below w.heap.size w w' := by
 have h := Any.strings_Repeat laysRepeat repExtra ⟨#[100]⟩ 32 w (by omega) (by decide)
 refine h.mono ?_
 rintro e w' ⟨rfl, hb⟩
 exact ⟨by rfl, hb⟩
theorem MRow.one (w : World) (base : Nat) (hb : base ≤ w.heap.size) (n : Bs) (p : Int) : MRow (w.alloc (.cells #[.string ⟨List.toArray n⟩, .int .i64 p] 130)) base (.slice (some ⟨w.heap.size, 0, none⟩) 1 1) [(n, p)] :=
 ⟨by simp [mv], .inr ⟨w.heap.size, 1, #[.string ⟨List.toArray n⟩, .int .i64 p], rfl, hb, heap_alloc_new w _, Nat.le_refl _, by decide, rfl, by simp [mv]⟩⟩
theorem some_any (h now : Int) (w : World) (h0 : 0 ≤ h) (h1 : h ≤ 1000000) (hk : KT w) :
  Calls Tryz.prog 28 #[.int .i64 h, .int .i64 now] w fun e w' => ∃ v, e = .returned v ∧ TRow w' w.heap.size v (someT h now) ∧ Below w.heap.size w w' := by
 have e1 : IntKind.i64.wrap (2 * h) = 2 * h := by rw [IntKind.wrap_i64]; omega
 have e2 : IntKind.i64.wrap (2 * h + 1) = 2 * h + 1 := by rw [IntKind.wrap_i64]; omega
 have Z0 : Blk (w.alloc (.cells ztA 27)) w.heap.size (List.toArray ztL) := Blk.new _ _ _
 have hb0 : Below w.heap.size w (w.alloc (.cells ztA 27)) := Below.allocS (Below.refl _ _) _
 have q1 := rep_d (w.alloc (.cells ztA 27))
 have q2 := fun (v : Value) (W : World) (hv : MS W v oneA) (hb : Below w.heap.size w W) => mdigest_any v oneA W hv (hk.keep hb)
 rw [show someT h now = ⟨⟨2 * h + 1, 1, 1, true, ds, [], [], ds, ds, dgM oneA, []⟩, oneA, now⟩ from rfl]
 generalize dgM oneA = D at *
 generalize ds = dd at *
 go_enter Tryz.func28, Tryz.ntmps28
 go_wp2_with fail
 refine q1.mono ?_
 rintro e w1 ⟨rfl, hb⟩
 have Z1 := Z0.keep hb
 have hs1 : w.heap.size + 1 ≤ w1.heap.size := by have := hb.size; simpa using this
 have hb1 := hb0.trans (hb.mono hb0.size)
 have r1 : MRow (w1.alloc (.cells #[.string ⟨List.toArray ([97])⟩, .int .i64 1] 130)) (w.heap.size + 1) (.slice (some ⟨w1.heap.size, 0, none⟩) 1 1) oneA := MRow.one w1 _ hs1 [97] 1
 have hb2 := Below.allocS hb1 (.cells #[.string ⟨List.toArray ([97])⟩, .int .i64 1] 130)
 have Z2 := Z1.alloc (.cells #[.string ⟨List.toArray ([97])⟩, .int .i64 1] 130)
 have q2 := q2 _ _ r1.ms hb2
 clear q1 hb Z0 hb0
 go_wp2_with fail
 refine q2.mono ?_
 rintro e w3 ⟨rfl, hb⟩
 have Z3 := (Z2.keep hb).alloc (.cells #[.int .i64 0, .int .i64 0, .int .i64 0, .bool false, .string ⟨List.toArray []⟩, .string ⟨List.toArray []⟩, .string ⟨List.toArray []⟩, .string ⟨List.toArray []⟩, .string ⟨List.toArray []⟩, .string ⟨List.toArray []⟩, .slice none 0 0] 24)
 have hb3 := hb2.trans (hb.mono hb2.size)
 have hb4 := Below.allocS hb3 (.cells #[.int .i64 0, .int .i64 0, .int .i64 0, .bool false, .string ⟨List.toArray []⟩, .string ⟨List.toArray []⟩, .string ⟨List.toArray []⟩, .string ⟨List.toArray []⟩, .string ⟨List.toArray []⟩, .string ⟨List.toArray []⟩, .slice none 0 0] 24)
 have r3 := r1.keep hb
 have r4 := r3.alloc (.cells #[.int .i64 0, .int .i64 0, .int .i64 0, .bool false, .string ⟨List.toArray []⟩, .string ⟨List.toArray []⟩, .string ⟨List.toArray []⟩, .string ⟨List.toArray []⟩, .string ⟨List.toArray []⟩, .string ⟨List.toArray []⟩, .slice none 0 0] 24)
 have hs4 : w1.heap.size + 1 ≤ w3.heap.size := by have := hb.size; simpa using this
 have hs3 : w.heap.size + 1 ≤ w3.heap.size := by have := hb.size; simp at this; omega
 clear q2 hb Z2 Z1 hb1 hb2 r1 r3 hb3
 go_wp2_with (first | (refine wpList_rowStore row_head rfl rfl (.tmp 7) (.tmp 19) rfl rfl rfl (vs := [.int .i64 (2 * h + 1), .int .i64 1, .int .i64 1, .bool true, .string ⟨List.toArray dd⟩, .string ⟨List.toArray []⟩, .string ⟨List.toArray []⟩, .string ⟨List.toArray dd⟩, .string ⟨List.toArray dd⟩, .string ⟨List.toArray D⟩, .slice none 0 0]) rfl (by simp [Value.oneCell']) (us := [.int .i64 0, .int .i64 0, .int .i64 0, .bool false, .string ⟨List.toArray []⟩, .string ⟨List.toArray []⟩, .string ⟨List.toArray []⟩, .string ⟨List.toArray []⟩, .string ⟨List.toArray []⟩, .string ⟨List.toArray []⟩, .slice none 0 0]) rfl (Blk.new' (by simp)) ?_; intro w5 N5 m5; have Z5 := Z3.mod m5 (by simp; omega)) | (refine wpList_rowLoad row_head rfl (.tmp 7) rfl rfl (vs := [.int .i64 (2 * h + 1), .int .i64 1, .int .i64 1, .bool true, .string ⟨List.toArray dd⟩, .string ⟨List.toArray []⟩, .string ⟨List.toArray []⟩, .string ⟨List.toArray dd⟩, .string ⟨List.toArray dd⟩, .string ⟨List.toArray D⟩, .slice none 0 0]) rfl N5 ?_) | (refine wpList_rowStore row_trust rfl rfl (.tmp 4) (.tmp 23) rfl rfl rfl (vs := [.int .i64 (2 * h + 1), .int .i64 1, .int .i64 1, .bool true, .string ⟨List.toArray dd⟩, .string ⟨List.toArray []⟩, .string ⟨List.toArray []⟩, .string ⟨List.toArray dd⟩, .string ⟨List.toArray dd⟩, .string ⟨List.toArray D⟩, .slice none 0 0, .slice (some ⟨w1.heap.size, 0, none⟩) 1 1, .int .i64 now]) rfl (by simp [Value.oneCell']) (us := ztL) rfl Z5 ?_; intro w6 N6 m6))
 have hb5 := Below.mod hb4 m5 hb4.size (by simp; omega)
 have r5 := r4.kept (fun k hk => m5.block k (by cases hk; simp; omega) (by cases hk; simp; omega))
 have hld := row_loadVar row_trust w6 (vs := [.int .i64 (2 * h + 1), .int .i64 1, .int .i64 1, .bool true, .string ⟨List.toArray dd⟩, .string ⟨List.toArray []⟩, .string ⟨List.toArray []⟩, .string ⟨List.toArray dd⟩, .string ⟨List.toArray dd⟩, .string ⟨List.toArray D⟩, .slice none 0 0, .slice (some ⟨w1.heap.size, 0, none⟩) 1 1, .int .i64 now]) rfl N6
 refine bodyPost_ret (results_cell1 rfl _ _ _ _ rfl hld) rfl ?_
 exact ⟨_, rfl, ⟨_, _, rfl, SRow.nil _ _, MRow.low (MRow.mod r5 m6 (by omega)) (by omega)⟩, Below.mod hb5 m6 hb5.size (by simp)⟩
end Go.Proofs.YthgjdaomcpinaaaGreatDoor
namespace Go.Proofs.YthgjdaomcpinaaaGreatDoor
open Go.RowKit Go.Shelf Pl
theorem twrite_any (av : List Nat) (p j q : Nat) (m : Value) (span : Int) (d : Dk) (v : Value) (l : List Bs) (hne : l ≠ []) (hn : l.length ≤ 1000) (hm : mayR l = true) (hf : -9223372036854775808 ≤ d.fuse ∧ d.fuse ≤ 9223372036854775807) (hrm : 0 ≤ d.room ∧ d.room ≤ 1048576) (hsl : d.s.length ≤ 1048576) (w : World) (hk : KT w) (h : DkV w av p d) (hj : Blk w j #[.pointer (some ⟨p, 0, none⟩), .bool false]) (hpj : p ≠ j) (hjb : j ∈ av) (hav : ∀ x ∈ av, x < w.heap.size) (B : Blk w q #[m, .int .i64 span, .pointer (some ⟨j, 0, none⟩)]) (hv : SS w v l) :
  Calls Tryz.prog 73 #[.pointer (some ⟨q, 0, none⟩), v] w fun e w' => e = .returned (.int .i64 ((writeD d l).2)) ∧ DkV w' av p (writeD d l).1 ∧ Blk w' j #[.pointer (some ⟨p, 0, none⟩), .bool (tornD (writeD d l).2)] ∧ Mod [p, j] w w' := by
 have q1 := jwrite_any av p j d v l hn hm hf hrm hsl w hk h hj hpj hjb hav hv
 obtain ⟨a, c, rfl⟩ := hv.form
 have hls := hv.small
 have hl : l.length ≠ 0 := fun e => hne (List.length_eq_zero_iff.1 e)
 have e0 : ((l.length : Int) == 0) = false := by rw [beq_eq_false_iff_ne]; omega
 generalize writeD d l = x at *
 obtain ⟨b1, b2, b3⟩ := id B
 clear hne hm hf hrm hsl h hj B hv hl
 go_enter Tryz.func73, Tryz.ntmps73
 go_wp2_with fail
 refine q1.mono ?_
 rintro e w1 ⟨rfl, h1, h2, h3⟩
 go_wp2_with fail
 go_ret
 exact ⟨rfl, h1, h2, h3⟩
end Go.Proofs.YthgjdaomcpinaaaGreatDoor
namespace Go.Proofs.YthgjdaomcpinaaaGreatDoor
open Go.RowKit Go.WideMaps Go.Maps Go.Shelf Pl
def hT (v : Value) : Option (DataW Value × List MemPlace) := some (.held v, [])
theorem hT_inv {v u : Value} {ps : List MemPlace} (h : hT v = some (.held u, ps)) : v = u := by
 unfold hT at h
 injection h with h
 injection h with h _
 injection h
theorem topen_empty (av : List Nat) (p : Nat) (d : Dk) (span : Int) (h0 : 1 ≤ span) (h1 : span ≤ 1099511627776) (hd : d.s = []) (hf : -9223372036854775808 ≤ d.fuse ∧ d.fuse ≤ 9223372036854775807) (hsy : (syncD d).2 = 0) (w : World) (h : DkV w av p d) :
  Calls Tryz.prog 18 #[.pointer (some ⟨p, 0, none⟩), .int .i64 span] w fun e w' => ∃ j m q, e = .returned (.tuple #[.pointer (some ⟨q, 0, none⟩), .int .i64 0]) ∧ w.heap.size ≤ j ∧ j < m ∧ m < q ∧ Blk w' j #[.pointer (some ⟨p, 0, none⟩), .bool false] ∧ DkV w' (q :: m :: j :: av) p (syncD d).1 ∧ w'.ownsMap (H := Value) Tryz.prog 3 hT m 0 (.map []) ∧ Blk w' q #[.map (some m), .int .i64 span, .pointer (some ⟨j, 0, none⟩)] ∧ Mod [p] w w' := by
 have hmm := @run_makeMap Tryz.prog
 have q1 := jopen_empty av p d hd hf hsy w h
 have d0 : decide (span < 1) = false := by simp; omega
 have d1 : decide (1099511627776 < span) = false := by simp; omega
 clear hd hf hsy h
 go_enter Tryz.func18, Tryz.ntmps18
 go_wp2_with fail
 refine q1.mono ?_
 rintro e w1 ⟨j, rfl, hj, hB, hD, hm⟩
 have hown : (w1.alloc (.map #[] 0)).ownsMap (H := Value) Tryz.prog 3 hT w1.heap.size 0 (.map []) := World.ownsMap_made _ _ _ _
 have hbm : Below w1.heap.size w1 (w1.alloc (.map #[] 0)) := (Below.refl _ _).alloc (Nat.le_refl _) _
 have hbm2 := Below.allocS hbm (.cells #[.map (some w1.heap.size), .int .i64 span, .pointer (some ⟨j, 0, none⟩)] 122)
 have hjl := hB.lt
 have hB2 := hB.keep hbm2
 have hD2 := ((hD.more (x := w1.heap.size) (Nat.le_refl _)).more (x := w1.heap.size + 1) (by omega)).keep hbm2
 have hown2 := hown.alloc (.cells #[.map (some w1.heap.size), .int .i64 span, .pointer (some ⟨j, 0, none⟩)] 122)
 have hm2 := hm.trans (Mod.of_below hbm2)
 have hq : Blk ((w1.alloc (.map #[] 0)).alloc (.cells #[.map (some w1.heap.size), .int .i64 span, .pointer (some ⟨j, 0, none⟩)] 122)) (w1.heap.size + 1) #[.map (some w1.heap.size), .int .i64 span, .pointer (some ⟨j, 0, none⟩)] := Blk.new' (by simp)
 clear q1 hown hB hD hm
 go_wp2_with fail
 go_loopw [36] (fun s36 wr => s36 = .int .i64 0 ∧ wr = (w1.alloc (.map #[] 0)).alloc (.cells #[.map (some w1.heap.size), .int .i64 span, .pointer (some ⟨j, 0, none⟩)] 122)) (fun s36 _ => 0)
 case atStart => exact ⟨rfl, rfl⟩
 case round =>
  obtain ⟨rfl, rfl⟩ := hrel
  go_wp2_with fail
  go_ret2
  exact ⟨j, w1.heap.size, w1.heap.size + 1, rfl, hj, hjl, by omega, hB2, hD2, hown2, hq, hm2⟩
end Go.Proofs.YthgjdaomcpinaaaGreatDoor
namespace Go.Proofs.YthgjdaomcpinaaaGreatDoor
open Go.RowKit Go.WideMaps Go.Maps Go.Sort Go.Shelf Pl
abbrev nilT : Value := .agg #[.int .i64 0, .int .i64 0, .int .i64 0, .bool false, .string ⟨List.toArray []⟩, .string ⟨List.toArray []⟩, .string ⟨List.toArray []⟩, .string ⟨List.toArray []⟩, .string ⟨List.toArray []⟩, .string ⟨List.toArray []⟩, .slice none 0 0, .slice none 0 0, .int .i64 0]
theorem zeroTr (w : World) : (zeroValue 27).run Tryz.prog w = .ok nilT w := by
 have h : (Tryz.prog.info? 27).map (·.zero) = some (some nilT) := by kernel_rfl
 obtain ⟨i, hi, hz⟩ := Option.map_eq_some_iff.1 h
 simp [zeroValue, typeInfo, hi, hz]
theorem keyedI : Keyed Tryz.prog 3 := int_keyed Tryz.underlying3
theorem keyI (k : Int) (hk : -9223372036854775808 ≤ k ∧ k ≤ 9223372036854775807) : keyOf Tryz.prog 3 (.int .i64 k) = some (.int .i64 k) := by
 have h1 : IntKind.i64.min = -9223372036854775808 := by decide
 have h2 : IntKind.i64.max = 9223372036854775807 := by decide
 exact keyOf_int_mk Tryz.underlying3 (by simp only [Lit.wf, Bool.and_eq_true, decide_eq_true_eq, h1, h2]; exact hk)
theorem isKeyI (k : Int) : WideAt.IsKeyLit (.int .i64 k) := by first | trivial | exact ⟨_, _, rfl⟩ | simp [WideAt.IsKeyLit]
def hts (T : List (Int × Tr)) : List Int := T.map (·.1)
structure TrD (w : World) (base : Nat) (D : DataW Value) (T : List (Int × Tr)) : Prop where
 has : ∀ k : Int, Maps.has D (.int .i64 k) = decide (k ∈ hts T)
 val : ∀ e ∈ T, ∃ v, D.atKey (.int .i64 e.1) (.held nilT) = .held v ∧ TRow w base v e.2
 nodup : (hts T).Nodup
 size : Maps.size D = T.length
def TrM (w : World) (base m : Nat) (T : List (Int × Tr)) : Prop := ∃ D, w.ownsMap (H := Value) Tryz.prog 3 hT m T.length D ∧ TrD w base D T
theorem TRow.keep {W w : World} {base : Nat} {v : Value} {t : Tr} (h : TRow W base v t) (hb : Below W.heap.size W w) : TRow w base v t := by
 obtain ⟨sk, ms, h1, h2, h3⟩ := h
 exact ⟨sk, ms, h1, h2.keep hb, h3.keep hb⟩
theorem TrM.nil {w : World} {base m : Nat} (h : w.ownsMap (H := Value) Tryz.prog 3 hT m 0 (.map [])) : TrM w base m [] :=
 ⟨_, h, fun k => (by rw [has_eq]; simp [hts]), fun e he => (by cases he), (by simp [hts]), rfl⟩
theorem TrM.lt {w : World} {base m : Nat} {T : List (Int × Tr)} (h : TrM w base m T) : m < w.heap.size := by
 obtain ⟨D, ho, _⟩ := h
 exact ho.lt
theorem tmap_at {H : Type} {R : Value → Option (DataW H × List MemPlace)} {W w : World} {t : TypeId} {b n : Nat} {D : DataW H} (h : W.ownsMap Tryz.prog t R b n D) (hb : w.heap[b]? = W.heap[b]?) : w.ownsMap Tryz.prog t R b n D := by
 obtain ⟨es, clock, h1, h2⟩ := h
 exact ⟨es, clock, hb.trans h1, h2⟩
theorem TrM.keep {W w : World} {base m : Nat} {T : List (Int × Tr)} (h : TrM W base m T) (hb : Below W.heap.size W w) : TrM w base m T := by
 obtain ⟨D, ho, hD⟩ := h
 exact ⟨D, tmap_at ho (hb.block m ho.lt), hD.has, fun e he => (by obtain ⟨v, h1, h2⟩ := hD.val e he; exact ⟨v, h1, h2.keep hb⟩), hD.nodup, hD.size⟩
theorem TrM.look {w : World} {base m : Nat} {T : List (Int × Tr)} (h : TrM w base m T) (k : Int) (hk : -9223372036854775808 ≤ k ∧ k ≤ 9223372036854775807) :
  ∃ v, (Instr.lookup 120 (.map (some m)) (.int .i64 k) true).run Tryz.prog w = .ok (.tuple #[v, .bool (decide (k ∈ hts T))]) w ∧ (∀ t, (k, t) ∈ T → TRow w base v t) ∧ (k ∉ hts T → v = nilT) := by
 obtain ⟨D, ho, hD⟩ := h
 obtain ⟨v, ps, hrun, hv⟩ := ho.look_ok keyedI Tryz.underlying120 (zeroTr w) (zd := .held nilT) (zp := []) rfl (keyI k hk)
 rw [hD.has] at hrun
 refine ⟨v, hrun, fun t ht => ?_, fun hn => ?_⟩
 ·obtain ⟨u, h1, h2⟩ := hD.val (k, t) ht
  rw [h1] at hv
  rw [hT_inv hv]
  exact h2
 ·rw [atKey_of_not_has (by rw [hD.has]; simpa using hn)] at hv
  exact hT_inv hv
end Go.Proofs.YthgjdaomcpinaaaGreatDoor
namespace Go.Proofs.YthgjdaomcpinaaaGreatDoor
open Go.Shelf
def laysCloneMap_ren : Go.Shelf.Ren := ⟨fun | 5 => 70 | 7 => 125 | n => n, fun | 23 => 120 | 25 => 3 | 3 => 27 | 4 => 4 | 20 => 20 | n => n, fun | n => n⟩
theorem laysCloneMap : Go.Proofs.SlLaysW.n5 Tryz.prog laysCloneMap_ren := {
 mixed := by kernel_rfl
 f5 := ⟨Tryz.f70.name, by decide, Tryz.func70.trans (congrArg some (by kernel_rfl))⟩
 f7 := Tryz.func125.trans (congrArg some (by kernel_rfl))
 t4 := Tryz.underlying4
 a4 := Tryz.isAgg4
 z4 := Tryz.sizeOf4
 v4 := Tryz.zeroValue4
 t20 := Tryz.underlying20
 a20 := Tryz.isAgg20
 z20 := Tryz.sizeOf20
 v20 := Tryz.zeroValue20
 t23 := Tryz.underlying120
 a23 := Tryz.isAgg120
 z23 := Tryz.sizeOf120
 v23 := Tryz.zeroValue120 }
end Go.Proofs.YthgjdaomcpinaaaGreatDoor
namespace Go.Proofs.YthgjdaomcpinaaaGreatDoor
open Go.RowKit Go.WideMaps Go.Maps Go.Sort Go.Shelf Pl
theorem TrD.new {w : World} {base : Nat} {T : List (Int × Tr)} {D : DataW Value} (h : TrD w base D T) (hD : Tidy D) (k : Int) (t : Tr) (v : Value) (hn : k ∉ hts T) (hv : TRow w base v t) : TrD w base (D.put (.int .i64 k) (.held v)) (T ++ [(k, t)]) := by
 refine ⟨fun k' => ?_, fun e he => ?_, ?_, ?_⟩
 ·by_cases e : k' = k
  ·subst e
   rw [has_put_same hD.isMap (isKeyI k')]
   simp [hts]
  ·rw [has_put_other (by intro h; injection h with _ h; exact e h), h.has, decide_eq_decide]
   unfold hts
   rw [List.map_append, List.mem_append]
   simp [e]
 ·rcases List.mem_append.1 he with he | he
  ·obtain ⟨u, h1, h2⟩ := h.val e he
   have hne : e.1 ≠ k := fun h => hn (by rw [← h]; exact List.mem_map.2 ⟨e, he, rfl⟩)
   exact ⟨u, by rw [atKey_put_other (by intro h; injection h with _ h; exact hne h)]; exact h1, h2⟩
  ·rw [List.mem_singleton] at he
   subst he
   exact ⟨v, atKey_put_same hD.isMap (isKeyI k) _ _, hv⟩
 ·unfold hts
  rw [List.map_append, List.nodup_append]
  refine ⟨h.nodup, by simp, fun a ha b hb e => ?_⟩
  simp only [List.map_cons, List.map_nil, List.mem_singleton] at hb
  subst hb e
  exact hn ha
 ·rw [size_put hD, h.has, if_neg (by simpa using hn), h.size, List.length_append]
  rfl
theorem tclone_any (base m : Nat) (T : List (Int × Tr)) (w : World) (h : TrM w base m T) :
  Calls Tryz.prog 70 #[.map (some m)] w fun e w' => e = .returned (.map (some w.heap.size)) ∧ TrM w' base w.heap.size T ∧ TrM w' base m T ∧ Below w.heap.size w w' := by
 obtain ⟨D, ho, hD⟩ := h
 refine (AnyW.maps_Clone_owns laysCloneMap 3 hT m T.length D w ho).mono ?_
 rintro e w' ⟨he, h1, h2, hb⟩
 have hD2 : TrD w' base D T := ⟨hD.has, fun e he => (by obtain ⟨v, h1, h2⟩ := hD.val e he; exact ⟨v, h1, h2.keep hb⟩), hD.nodup, hD.size⟩
 exact ⟨he, ⟨D, h1, hD2⟩, ⟨D, h2, hD2⟩, hb⟩
end Go.Proofs.YthgjdaomcpinaaaGreatDoor
namespace Go.Proofs.YthgjdaomcpinaaaGreatDoor
open Go.Shelf
def laysCloneS_ren : Go.Shelf.Ren := ⟨fun | 41 => 126 | n => n, fun | 22 => 22 | 23 => 9 | 4 => 4 | n => n, fun | n => n⟩
theorem laysCloneS : Go.Proofs.SlLaysE0.n41 Tryz.prog laysCloneS_ren := {
 mixed := by kernel_rfl
 f41 := ⟨Tryz.f126.name, by decide, Tryz.func126.trans (congrArg some (by kernel_rfl))⟩
 t4 := Tryz.underlying4
 a4 := Tryz.isAgg4
 z4 := Tryz.sizeOf4
 v4 := Tryz.zeroValue4
 t22 := Tryz.underlying22
 a22 := Tryz.isAgg22
 z22 := Tryz.sizeOf22
 v22 := Tryz.zeroValue22 }
def laysCloneM_ren : Go.Shelf.Ren := ⟨fun | 41 => 127 | n => n, fun | 22 => 25 | 23 => 130 | 4 => 4 | n => n, fun | n => n⟩
theorem laysCloneM : Go.Proofs.SlLaysE0.n41 Tryz.prog laysCloneM_ren := {
 mixed := by kernel_rfl
 f41 := ⟨Tryz.f127.name, by decide, Tryz.func127.trans (congrArg some (by kernel_rfl))⟩
 t4 := Tryz.underlying4
 a4 := Tryz.isAgg4
 z4 := Tryz.sizeOf4
 v4 := Tryz.zeroValue4
 t22 := Tryz.underlying25
 a22 := Tryz.isAgg25
 z22 := Tryz.sizeOf25
 v22 := Tryz.zeroValue25 }
end Go.Proofs.YthgjdaomcpinaaaGreatDoor
namespace Go.Proofs.YthgjdaomcpinaaaGreatDoor
open Go.RowKit Go.Shelf Pl
def PlainS (_ : Value) : Prop := True
theorem SRow.plain {w : World} {base : Nat} {v : Value} {l : List Bs} (_ : SRow w base v l) : PlainS v := trivial
theorem MRow.plain {w : World} {base : Nat} {v : Value} {l : List (Bs × Int)} (_ : MRow w base v l) : PlainS v := trivial
theorem SRow.emptyW (w : World) (base : Nat) (hb : base ≤ w.heap.size) : SRow (w.alloc (.cells #[] 9)) base (.slice (some ⟨w.heap.size, 0, none⟩) 0 0) [] :=
 ⟨rfl, .inr ⟨w.heap.size, 0, #[], rfl, hb, by simp [World.alloc, -World.alloc_eq], Nat.le_refl _, by unfold maxLen; omega, rfl, rfl⟩⟩
theorem MRow.emptyW (w : World) (base : Nat) (hb : base ≤ w.heap.size) : MRow (w.alloc (.cells #[] 130)) base (.slice (some ⟨w.heap.size, 0, none⟩) 0 0) [] :=
 ⟨rfl, .inr ⟨w.heap.size, 0, #[], rfl, hb, by simp [World.alloc, -World.alloc_eq], Nat.le_refl _, by unfold maxLen; omega, rfl, rfl⟩⟩
section
variable {ops : Array Oper} {o : Oper} {rest : List Oper} {a : Act} {w : World} {Q : Exit → Act → World → Prop}
theorem wpList_appNone (T E : TypeId) {z : Value} {sz by0 : Nat} (hT : Tryz.prog.underlying T = some (.slice E)) (hinfo : (Tryz.prog.info? E).map (fun i => (i.zero, i.size, i.bytes)) = some (some z, sz, by0)) (hgd : o.guard = none) (s x : Operand)
  (ho : o.op = .call { callee := .builtin .append, args := #[s, x], argTypes := #[T, T] })
  (va ad : Addr) (vc c : Nat) (hs : a.eval s = .slice (some va) 0 vc) (hx : a.eval x = .slice (some ad) 0 c)
  (h : wpList Tryz.prog ops Q rest (a.put o.dst (.slice (some va) 0 vc)) w) : wpList Tryz.prog ops Q (o :: rest) a w := by
 obtain ⟨i0, hi, hz0, hz1, hz2⟩ := info_parts hinfo
 have hS : Src Tryz.prog i0.size T (.slice (some ad) 0 c) 0 [] w := Src.ofSlice w hT ad 0 c [] (by simp) (fun j u h => by simp at h) (fun _ h => by cases h)
 have hr := run_append_nothing (P := Tryz.prog) w T T o.type E i0 hT hi (some va) 0 vc (Nat.zero_le _) _ hS
 refine wpList_plain hgd fun K hK => ?_
 unfold Oper.wp execOp
 simp only [ho, resolve, invoke, builtin, Sem.run_bind, Sem.run_pure, Result.andThen_ok, List.map_toArray, List.map_cons, List.map_nil, hs, hx, hr]
 exact hK _ _ h
end
theorem cloneT_odd (g off : Nat) (sp : Option Nat) (c : Nat) (w : World) :
  Calls Tryz.prog 126 #[.slice (some ⟨g, off, sp⟩) 0 c] w fun e w' => ∃ v', e = .returned v' ∧ SRow w' w.heap.size v' [] ∧ Below w.heap.size w w' := by
 have q22 : ∀ (w : World) (a : Option Addr) (n c n' c' : Nat), (binOp .eql 22 (.slice a n c) (.slice none n' c')).run Tryz.prog w = .ok (.bool a.isNone) w := fun w a n c n' c' => Go.Lib.run_eql_slice_nil w _ _ a n c n' c' Tryz.underlying22
 go_enter Tryz.func126, Tryz.ntmps126
 go_wp2_with (first | (at_builtin; refine wpList_appNone 22 9 Tryz.underlying22 infoStr rfl (.tmp 5) (.tmp 6) rfl _ _ _ _ rfl rfl ?_) | fail)
 go_ret
 exact ⟨_, rfl, SRow.emptyW _ _ (Nat.le_refl _), Below.allocS (Below.refl _ _) _⟩
theorem cloneM_odd (g off : Nat) (sp : Option Nat) (c : Nat) (w : World) :
  Calls Tryz.prog 127 #[.slice (some ⟨g, off, sp⟩) 0 c] w fun e w' => ∃ v', e = .returned v' ∧ MRow w' w.heap.size v' [] ∧ Below w.heap.size w w' := by
 have q22 : ∀ (w : World) (a : Option Addr) (n c n' c' : Nat), (binOp .eql 25 (.slice a n c) (.slice none n' c')).run Tryz.prog w = .ok (.bool a.isNone) w := fun w a n c n' c' => Go.Lib.run_eql_slice_nil w _ _ a n c n' c' Tryz.underlying25
 go_enter Tryz.func127, Tryz.ntmps127
 go_wp2_with (first | (at_builtin; refine wpList_appNone 25 130 Tryz.underlying25 infoMem rfl (.tmp 5) (.tmp 6) rfl _ _ _ _ rfl rfl ?_) | fail)
 go_ret
 exact ⟨_, rfl, MRow.emptyW _ _ (Nat.le_refl _), Below.allocS (Below.refl _ _) _⟩
theorem cloneT_any (v : Value) (L : List Bs) (w : World) (h : SS w v L) (hp : PlainS v) (hL : L.length ≤ 1000000) :
  Calls Tryz.prog 126 #[v] w fun e w' => ∃ v', e = .returned v' ∧ SRow w' w.heap.size v' L ∧ Below w.heap.size w w' := by
 obtain ⟨a, cap, rfl, h1, h2, h3⟩ := h
 obtain ⟨i0, hi, hz0, hz1, hz2⟩ := info_parts infoStr
 rcases a with _ | ⟨g, off, _ | sp⟩
 ·obtain rfl : L = [] := by
   apply Classical.byContradiction
   intro hn
   obtain ⟨g, off, e, _⟩ := h3 hn
   cases e
  refine (AnyE.slices_Clone_nil laysCloneS 0 cap w).mono ?_
  rintro e w' ⟨rfl, rfl⟩
  exact ⟨_, rfl, SRow.nil _ _, Below.refl _ _⟩
 ·have h4 : SSrc w g off L := by
   intro i hi
   obtain ⟨g', off', e, _, h⟩ := h3 (by intro e; rw [e] at hi; simp at hi)
   cases e
   exact h i hi
  refine (AnyE.slices_Clone laysCloneS i0 _ 1 16 hi hz0 hz1 hz2 rfl (by decide) Tryz.sizeOf9 g off L.length cap (sv L) w (by rw [sv_len]; omega) (by unfold maxLen; omega) (by omega) (fun j u hj => ?_) (sone L)).mono ?_
  ·have hj2 : j < L.length := by
    have := (List.getElem?_eq_some_iff.1 hj).1
    rw [sv_len] at this; exact this
   rw [h4 j hj2]
   rw [← hj]
   simp [sv, List.getD, List.getElem?_eq_getElem hj2]
  ·rintro e w' ⟨v', rfl, hr, _, hb⟩
   exact ⟨v', rfl, hr, hb⟩
 ·obtain rfl : L = [] := by
   apply Classical.byContradiction
   intro hn
   obtain ⟨g, off, e, _⟩ := h3 hn
   cases e
  exact cloneT_odd _ _ _ _ w
theorem cloneM_any (v : Value) (L : List (Bs × Int)) (w : World) (h : MS w v L) (hp : PlainS v) (hL : L.length ≤ 1000000) :
  Calls Tryz.prog 127 #[v] w fun e w' => ∃ v', e = .returned v' ∧ MRow w' w.heap.size v' L ∧ Below w.heap.size w w' := by
 obtain ⟨a, cap, rfl, h1, h2, h3⟩ := h
 obtain ⟨i0, hi, hz0, hz1, hz2⟩ := info_parts infoMem
 rcases a with _ | ⟨g, off, _ | sp⟩
 ·obtain rfl : L = [] := by
   apply Classical.byContradiction
   intro hn
   obtain ⟨g, off, e, _⟩ := h3 hn
   cases e
  refine (AnyE.slices_Clone_nil laysCloneM 0 cap w).mono ?_
  rintro e w' ⟨rfl, rfl⟩
  exact ⟨_, rfl, MRow.nil _ _, Below.refl _ _⟩
 ·have h4 : MSrc w g off L := by
   intro i hi
   obtain ⟨g', off', e, _, h⟩ := h3 (by intro e; rw [e] at hi; simp at hi)
   cases e
   exact h i hi
  refine (AnyE.slices_Clone laysCloneM i0 _ 2 24 hi hz0 hz1 hz2 rfl (by decide) Tryz.sizeOf130 g off L.length cap (mv L) w (mv_len L) (by unfold maxLen; omega) (by omega) (fun j u hj => ?_) (mone L)).mono ?_
  ·have hj2 : j < L.length * 2 := by
    have := (List.getElem?_eq_some_iff.1 hj).1
    rw [mv_len] at this; exact this
   obtain ⟨i, rfl | rfl⟩ : ∃ i, j = i * 2 ∨ j = i * 2 + 1 := ⟨j / 2, by omega⟩
   ·rw [(h4 i (by omega)).1, ← hj, (mv_at L i (by omega)).1]
   ·rw [show off + (i * 2 + 1) = off + i * 2 + 1 from by omega, (h4 i (by omega)).2, ← hj, (mv_at L i (by omega)).2]
  ·rintro e w' ⟨v', rfl, hr, _, hb⟩
   exact ⟨v', rfl, hr, hb⟩
 ·obtain rfl : L = [] := by
   apply Classical.byContradiction
   intro hn
   obtain ⟨g, off, e, _⟩ := h3 hn
   cases e
  exact cloneM_odd _ _ _ _ w
end Go.Proofs.YthgjdaomcpinaaaGreatDoor
namespace Go.Proofs.YthgjdaomcpinaaaGreatDoor
open Go.RowKit Go.Shelf Pl
theorem tr_own (a1 a2 a3 : Int) (lb : Bool) (pa st rc tx me ne : Bs) (K : List Bs) (L : List (Bs × Int)) (ta : Int) (sk ms : Value) (w : World) (h1 : SS w sk K) (h2 : MS w ms L) (p1 : PlainS sk) (p2 : PlainS ms) (l1 : K.length ≤ 1000000) (l2 : L.length ≤ 1000000) :
  Calls Tryz.prog 72 #[.agg #[.int .i64 a1, .int .i64 a2, .int .i64 a3, .bool lb, .string ⟨List.toArray pa⟩, .string ⟨List.toArray st⟩, .string ⟨List.toArray rc⟩, .string ⟨List.toArray tx⟩, .string ⟨List.toArray me⟩, .string ⟨List.toArray ne⟩, sk, ms, .int .i64 ta]] w fun e w' => ∃ v, e = .returned v ∧ TRow w' w.heap.size v ⟨⟨a1, a2, a3, lb, pa, st, rc, tx, me, ne, K⟩, L, ta⟩ ∧ Below w.heap.size w w' := by
 have B0 : Blk (w.alloc (.cells #[.int .i64 a1, .int .i64 a2, .int .i64 a3, .bool lb, .string ⟨List.toArray pa⟩, .string ⟨List.toArray st⟩, .string ⟨List.toArray rc⟩, .string ⟨List.toArray tx⟩, .string ⟨List.toArray me⟩, .string ⟨List.toArray ne⟩, sk, ms, .int .i64 ta] 27)) w.heap.size #[.int .i64 a1, .int .i64 a2, .int .i64 a3, .bool lb, .string ⟨List.toArray pa⟩, .string ⟨List.toArray st⟩, .string ⟨List.toArray rc⟩, .string ⟨List.toArray tx⟩, .string ⟨List.toArray me⟩, .string ⟨List.toArray ne⟩, sk, ms, .int .i64 ta] := Blk.new _ _ _
 have hb0 : Below w.heap.size w (w.alloc (.cells #[.int .i64 a1, .int .i64 a2, .int .i64 a3, .bool lb, .string ⟨List.toArray pa⟩, .string ⟨List.toArray st⟩, .string ⟨List.toArray rc⟩, .string ⟨List.toArray tx⟩, .string ⟨List.toArray me⟩, .string ⟨List.toArray ne⟩, sk, ms, .int .i64 ta] 27)) := Below.allocS (Below.refl _ _) _
 have B1 := B0.alloc (.cells ztA 27)
 have hb1 := Below.allocS hb0 (.cells ztA 27)
 have Z1 : Blk ((w.alloc (.cells #[.int .i64 a1, .int .i64 a2, .int .i64 a3, .bool lb, .string ⟨List.toArray pa⟩, .string ⟨List.toArray st⟩, .string ⟨List.toArray rc⟩, .string ⟨List.toArray tx⟩, .string ⟨List.toArray me⟩, .string ⟨List.toArray ne⟩, sk, ms, .int .i64 ta] 27)).alloc (.cells ztA 27)) (w.heap.size + 1) (List.toArray ztL) := Blk.new' (by simp)
 have q1 := cloneT_any sk K _ (h1.keep hb1) p1 l1
 obtain ⟨b1, b2, b3⟩ := id B1
 go_enter Tryz.func72, Tryz.ntmps72
 go_wp2_with fail
 refine q1.mono ?_
 rintro e w1 ⟨sk', rfl, r1, hb⟩
 have hs1 : w.heap.size + 2 ≤ w1.heap.size := by have := hb.size; simpa using this
 have B2 := B1.keep hb
 have Z2 := Z1.keep hb
 have hb2 := hb1.trans (hb.mono hb1.size)
 have r1 := SRow.low (c := w.heap.size + 2) r1 (by simp)
 obtain ⟨va, vc, rfl⟩ := r1.form
 clear q1 hb b1 b2 b3 B0 B1 Z1 hb0 hb1
 have m3 := (Mod.refl [w.heap.size] w1).setCell (p := ⟨w.heap.size, 10, none⟩) (.inl (by simp)) (.slice va K.length vc)
 have B3 : Blk (w1.setCell ⟨w.heap.size, 10, none⟩ (.slice va K.length vc)) w.heap.size #[.int .i64 a1, .int .i64 a2, .int .i64 a3, .bool lb, .string ⟨List.toArray pa⟩, .string ⟨List.toArray st⟩, .string ⟨List.toArray rc⟩, .string ⟨List.toArray tx⟩, .string ⟨List.toArray me⟩, .string ⟨List.toArray ne⟩, .slice va K.length vc, ms, .int .i64 ta] := by simpa using B2.set 10 (.slice va K.length vc)
 have Z3 := Z2.mod m3 (by simp)
 have hb3 := Below.mod hb2 m3 hb2.size (by simp)
 have r3 := SRow.mod r1 m3 (by omega)
 have q2 := cloneM_any ms L _ (h2.keep hb3) p2 l2
 obtain ⟨b1, b2, b3⟩ := id B2
 obtain ⟨c1, c2, c3⟩ := id B3
 go_wp2_with fail
 refine q2.mono ?_
 rintro e w4 ⟨ms', rfl, r4, hb⟩
 obtain ⟨ua, uc, rfl⟩ := r4.form
 have hs4 : w1.heap.size ≤ w4.heap.size := by have := hb.size; simpa using this
 have B4 := B3.keep hb
 have Z4 := Z3.keep hb
 have hb4 := hb3.trans (hb.mono hb3.size)
 have r5 := r3.keep hb
 have r4 := MRow.low (c := w.heap.size + 2) r4 (by simpa using hs1)
 clear q2 hb b1 b2 b3 c1 c2 c3 B2 B3 Z2 Z3 hb2 hb3 m3 r1 r3
 have m5 := (Mod.refl [w.heap.size] w4).setCell (p := ⟨w.heap.size, 11, none⟩) (.inl (by simp)) (.slice ua L.length uc)
 have B5 : Blk (w4.setCell ⟨w.heap.size, 11, none⟩ (.slice ua L.length uc)) w.heap.size (List.toArray [.int .i64 a1, .int .i64 a2, .int .i64 a3, .bool lb, .string ⟨List.toArray pa⟩, .string ⟨List.toArray st⟩, .string ⟨List.toArray rc⟩, .string ⟨List.toArray tx⟩, .string ⟨List.toArray me⟩, .string ⟨List.toArray ne⟩, .slice va K.length vc, .slice ua L.length uc, .int .i64 ta]) := by simpa using B4.set 11 (.slice ua L.length uc)
 have Z5 := Z4.mod m5 (by simp)
 have hb5 := Below.mod hb4 m5 hb4.size (by simp)
 have r6 := SRow.mod r5 m5 (by omega)
 have r7 := MRow.mod r4 m5 (by omega)
 obtain ⟨b1, b2, b3⟩ := id B4
 clear Z4 hb4 r5 r4 m5
 go_wp2_with (first | (refine wpList_rowLoad row_trust rfl (.tmp 1) rfl rfl (vs := [.int .i64 a1, .int .i64 a2, .int .i64 a3, .bool lb, .string ⟨List.toArray pa⟩, .string ⟨List.toArray st⟩, .string ⟨List.toArray rc⟩, .string ⟨List.toArray tx⟩, .string ⟨List.toArray me⟩, .string ⟨List.toArray ne⟩, .slice va K.length vc, .slice ua L.length uc, .int .i64 ta]) rfl B5 ?_) | (refine wpList_rowStore row_trust rfl rfl (.tmp 2) (.tmp 13) rfl rfl rfl (vs := [.int .i64 a1, .int .i64 a2, .int .i64 a3, .bool lb, .string ⟨List.toArray pa⟩, .string ⟨List.toArray st⟩, .string ⟨List.toArray rc⟩, .string ⟨List.toArray tx⟩, .string ⟨List.toArray me⟩, .string ⟨List.toArray ne⟩, .slice va K.length vc, .slice ua L.length uc, .int .i64 ta]) rfl (by simp [Value.oneCell']) (us := ztL) rfl Z5 ?_; intro w6 N6 m6))
 have hld := row_loadVar row_trust w6 (vs := [.int .i64 a1, .int .i64 a2, .int .i64 a3, .bool lb, .string ⟨List.toArray pa⟩, .string ⟨List.toArray st⟩, .string ⟨List.toArray rc⟩, .string ⟨List.toArray tx⟩, .string ⟨List.toArray me⟩, .string ⟨List.toArray ne⟩, .slice va K.length vc, .slice ua L.length uc, .int .i64 ta]) rfl N6
 refine bodyPost_ret (results_cell1 rfl _ _ _ _ rfl hld) rfl ?_
 exact ⟨_, rfl, ⟨_, _, rfl, SRow.low (r6.mod m6 (by omega)) (by omega), MRow.low (r7.mod m6 (by omega)) (by omega)⟩, Below.mod hb5 m6 hb5.size (by simp)⟩
end Go.Proofs.YthgjdaomcpinaaaGreatDoor
namespace Go.Proofs.YthgjdaomcpinaaaGreatDoor
open Go.RowKit Go.WideMaps Go.Maps Go.Sort Go.Shelf Pl
namespace Pl
def staleT (span now : Int) (t : Tr) : Bool := decide (0 ≤ now) && decide (t.at_ ≤ now - span)
end Pl
theorem tat_any (base q m : Nat) (span : Int) (jp : Value) (T : List (Int × Tr)) (k now : Int) (t : Tr) (hk : -9223372036854775808 ≤ k ∧ k ≤ 9223372036854775807) (hn : -9223372036854775808 ≤ now ∧ now ≤ 9223372036854775807) (hs : 0 ≤ span ∧ span ≤ 1099511627776) (hin : (k, t) ∈ T) (l1 : t.head.skips.length ≤ 1000000) (l2 : t.set.length ≤ 1000000) (w : World) (hM : TrM w base m T) (B : Blk w q #[.map (some m), .int .i64 span, jp]) :
  Calls Tryz.prog 32 #[.pointer (some ⟨q, 0, none⟩), .int .i64 k, .int .i64 now] w fun e w' => ∃ v, e = .returned (.tuple #[v, .int .i64 (if staleT span now t then 330 else 0)]) ∧ (if staleT span now t = true then v = nilT else TRow w' w.heap.size v t) ∧ Below w.heap.size w w' := by
 have Z0 : Blk (w.alloc (.cells ztA 27)) w.heap.size (List.toArray ztL) := Blk.new _ _ _
 have hb0 : Below w.heap.size w (w.alloc (.cells ztA 27)) := Below.allocS (Below.refl _ _) _
 obtain ⟨v, hrun, hv, _⟩ := (hM.keep hb0).look k hk
 have hv := hv t hin
 have hmem : decide (k ∈ hts T) = true := decide_eq_true (List.mem_map.2 ⟨(k, t), hin, rfl⟩)
 rw [hmem] at hrun
 have q1 := fun (v : Value) (W : World) (B : Blk W q #[.map (some m), .int .i64 span, jp]) (hv : TV W v t) => tr_stale q (.map (some m)) span jp v t now hs hn W B hv
 rw [show (decide (0 ≤ now) && decide (t.at_ ≤ now - span)) = staleT span now t from rfl] at q1
 generalize staleT span now t = st at *
 obtain ⟨⟨a1, a2, a3, lb, pa, sr, rc, tx, me, ne, K⟩, L, ta⟩ := t
 obtain ⟨sk, ms, rfl, h1, h2⟩ := hv
 simp only at h1 h2 l1 l2 q1 hrun
 have h1p := h1.plain
 have h2p := h2.plain
 have q2 := fun (W : World) (h1 : SS W sk K) (h2 : MS W ms L) => tr_own a1 a2 a3 lb pa sr rc tx me ne K L ta sk ms W h1 h2 h1p h2p l1 l2
 obtain ⟨ka, kc, rfl⟩ := h1.form
 obtain ⟨ma, mc, rfl⟩ := h2.form
 have B1 := B.keep hb0
 obtain ⟨b1, b2, b3⟩ := id B
 have B0 := B
 clear hM B hmem hin
 go_enter Tryz.func32, Tryz.ntmps32
 go_wp2_with (first | (refine wpList_rowStore row_trust rfl rfl (.tmp 8) (.tmp 17) rfl rfl rfl (vs := [.int .i64 a1, .int .i64 a2, .int .i64 a3, .bool lb, .string ⟨List.toArray pa⟩, .string ⟨List.toArray sr⟩, .string ⟨List.toArray rc⟩, .string ⟨List.toArray tx⟩, .string ⟨List.toArray me⟩, .string ⟨List.toArray ne⟩, .slice ka K.length kc, .slice ma L.length mc, .int .i64 ta]) rfl (by simp [Value.oneCell']) (us := ztL) rfl (Blk.new' (by simp)) ?_; intro w2 N2 m2) | (refine wpList_rowLoad row_trust rfl (.tmp 8) rfl rfl (vs := [.int .i64 a1, .int .i64 a2, .int .i64 a3, .bool lb, .string ⟨List.toArray pa⟩, .string ⟨List.toArray sr⟩, .string ⟨List.toArray rc⟩, .string ⟨List.toArray tx⟩, .string ⟨List.toArray me⟩, .string ⟨List.toArray ne⟩, .slice ka K.length kc, .slice ma L.length mc, .int .i64 ta]) rfl N2 ?_))
 have hb1 := Below.allocS hb0 (.cells ztA 27)
 have hb2 := Below.mod hb1 m2 hb1.size (by simp)
 have hsz2 : w.heap.size + 2 ≤ w2.heap.size := by have := m2.size; simpa using this
 have B2 := B0.keep hb2
 have Z2 := (Z0.alloc (.cells ztA 27)).mod m2 (by simp)
 have hbx : Below (w.alloc (.cells ztA 27)).heap.size (w.alloc (.cells ztA 27)) w2 := Below.mod (Below.allocS (Below.refl _ _) _) m2 (by simp) (by simp)
 have g1 := h1.keep hbx
 have g2 := h2.keep hbx
 have q1 := q1 (.agg #[.int .i64 a1, .int .i64 a2, .int .i64 a3, .bool lb, .string ⟨List.toArray pa⟩, .string ⟨List.toArray sr⟩, .string ⟨List.toArray rc⟩, .string ⟨List.toArray tx⟩, .string ⟨List.toArray me⟩, .string ⟨List.toArray ne⟩, .slice ka K.length kc, .slice ma L.length mc, .int .i64 ta]) w2 B2 ⟨_, _, rfl, g1.ss, g2.ms⟩
 clear Z0 hb0 B1 b1 b2 b3 h1 h2 hrun hb1
 refine q1.mono ?_
 rintro e w3 ⟨rfl, hb⟩
 have hb3 := hb2.trans (hb.mono hb2.size)
 have hs3 := hb.size
 have Z3 := Z2.keep hb
 have N3 := N2.keep hb
 have g3 := g1.keep hb
 have g4 := g2.keep hb
 clear q1 hb Z2 N2 g1 g2 B2 hb2 hbx
 cases st
 ·have q2 := q2 w3 g3.ss g4.ms
  go_wp2_with (first | (refine wpList_rowLoadG row_trust ?hw (.tmp 8) rfl rfl (vs := [.int .i64 a1, .int .i64 a2, .int .i64 a3, .bool lb, .string ⟨List.toArray pa⟩, .string ⟨List.toArray sr⟩, .string ⟨List.toArray rc⟩, .string ⟨List.toArray tx⟩, .string ⟨List.toArray me⟩, .string ⟨List.toArray ne⟩, .slice ka K.length kc, .slice ma L.length mc, .int .i64 ta]) rfl N3 ?_; (case hw => rfl)))
  refine q2.mono ?_
  rintro e w4 ⟨_, rfl, ⟨sk2, ms2, rfl, r1, r2⟩, hb⟩
  have r1 : SRow w4 w3.heap.size sk2 K := r1
  have r2 : MRow w4 w3.heap.size ms2 L := r2
  obtain ⟨xa, xc, rfl⟩ := r1.form
  obtain ⟨ya, yc, rfl⟩ := r2.form
  have Z4 := Z3.keep hb
  have hb4 := hb3.trans (hb.mono hb3.size)
  clear q2 hb Z3 N3 g3 g4 hb3
  go_wp2_with (first | (refine wpList_rowStore row_trust rfl rfl (.tmp 6) (.tmp 30) rfl rfl rfl (vs := [.int .i64 a1, .int .i64 a2, .int .i64 a3, .bool lb, .string ⟨List.toArray pa⟩, .string ⟨List.toArray sr⟩, .string ⟨List.toArray rc⟩, .string ⟨List.toArray tx⟩, .string ⟨List.toArray me⟩, .string ⟨List.toArray ne⟩, .slice xa K.length xc, .slice ya L.length yc, .int .i64 ta]) rfl (by simp [Value.oneCell']) (us := ztL) rfl Z4 ?_; intro w5 N5 m5))
  have hld := row_loadVar row_trust w5 (vs := [.int .i64 a1, .int .i64 a2, .int .i64 a3, .bool lb, .string ⟨List.toArray pa⟩, .string ⟨List.toArray sr⟩, .string ⟨List.toArray rc⟩, .string ⟨List.toArray tx⟩, .string ⟨List.toArray me⟩, .string ⟨List.toArray ne⟩, .slice xa K.length xc, .slice ya L.length yc, .int .i64 ta]) rfl N5
  refine bodyPost_ret (results_cell_tmp2 rfl _ _ _ _ rfl hld) rfl ?_
  exact ⟨_, rfl, ⟨_, _, rfl, SRow.low (r1.mod m5 (by omega)) (by omega), MRow.low (r2.mod m5 (by omega)) (by omega)⟩, Below.mod hb4 m5 hb4.size (by simp)⟩
 ·go_wp2_with (first | (refine wpList_rowStore row_trust rfl rfl (.tmp 6) (.tmp 28) rfl rfl rfl (vs := [.int .i64 0, .int .i64 0, .int .i64 0, .bool false, .string ⟨List.toArray []⟩, .string ⟨List.toArray []⟩, .string ⟨List.toArray []⟩, .string ⟨List.toArray []⟩, .string ⟨List.toArray []⟩, .string ⟨List.toArray []⟩, .slice none 0 0, .slice none 0 0, .int .i64 0]) rfl (by simp [Value.oneCell']) (us := ztL) rfl Z3 ?_; intro w5 N5 m5))
  have hld := row_loadVar row_trust w5 (vs := [.int .i64 0, .int .i64 0, .int .i64 0, .bool false, .string ⟨List.toArray []⟩, .string ⟨List.toArray []⟩, .string ⟨List.toArray []⟩, .string ⟨List.toArray []⟩, .string ⟨List.toArray []⟩, .string ⟨List.toArray []⟩, .slice none 0 0, .slice none 0 0, .int .i64 0]) rfl N5
  refine bodyPost_ret (results_cell_tmp2 rfl _ _ _ _ rfl hld) rfl ?_
  have hlast := Below.mod hb3 m5 hb3.size (by simp)
  first | exact ⟨_, rfl, rfl, hlast⟩ | exact ⟨_, rfl, hlast⟩ | exact ⟨⟨_, rfl⟩, hlast⟩ | (refine ⟨?_, hlast⟩; exact ⟨_, rfl⟩) | (simp; exact hlast) | simpa using hlast
end Go.Proofs.YthgjdaomcpinaaaGreatDoor
