/- TOpen, TMap, Shelf8, TMapP, Shelf5, OwnT, Own, TAt, TList, TAdd. -/
import Derived.Lib.OwnKind
import Derived.Sort.KeysCollected
import Derived.Test.YthgjdaomcpinaaaGreatDoorProg
import Derived.Shelf.SlMaps.Clone
import Derived.Shelf.SlicesE.Clone
import Derived.Test.YthgjdaomcpinaaaGreatDoorMn20
import Derived.Test.YthgjdaomcpinaaaGreatDoorMn21
set_option linter.unnecessarySimpa false

/- trust.Open on a disk without bytes. The program's walk. -/
set_option linter.unusedSimpArgs false
set_option linter.unusedVariables false
namespace Go.Proofs.YthgjdaomcpinaaaGreatDoor
open Go.RowKit Go.WideMaps Go.Maps Go.Shelf Pl

/-- What is trusted lies in the store's map as it is. -/
def hT (v : Value) : Option (DataW Value × List MemPlace) := some (.held v, [])
theorem hT_inv {v u : Value} {ps : List MemPlace} (h : hT v = some (.held u, ps)) : v = u := by
  unfold hT at h
  injection h with h
  injection h with h _
  injection h

set_option maxRecDepth 100000 in
set_option maxHeartbeats 2000000 in
theorem topen_empty (av : List Nat) (p : Nat) (d : Dk) (span : Int) (h0 : 1 ≤ span) (h1 : span ≤ 1099511627776) (hd : d.s = []) (hf : -9223372036854775808 ≤ d.fuse ∧ d.fuse ≤ 9223372036854775807) (hsy : (syncD d).2 = 0) (w : World) (h : DkV w av p d) :
    Calls Tryz.prog 18 #[.pointer (some ⟨p, 0, none⟩), .int .i64 (span)] w fun e w' => ∃ j m q, e = .returned (.tuple #[.pointer (some ⟨q, 0, none⟩), .int .i64 (0)]) ∧ w.heap.size ≤ j ∧ j < m ∧ m < q ∧ Blk w' j #[.pointer (some ⟨p, 0, none⟩), .bool false] ∧ DkV w' (q :: m :: j :: av) p (syncD d).1 ∧ w'.ownsMap (H := Value) Tryz.prog 3 hT m 0 (.map []) ∧ Blk w' q #[.map (some m), .int .i64 (span), .pointer (some ⟨j, 0, none⟩)] ∧ Mod [p] w w' := by
  have hmm := @run_makeMap Tryz.prog
  have q1 := jopen_empty av p d hd hf hsy w h
  have d0 : decide (span < 1) = false := by simp; omega
  have d1 : decide (1099511627776 < span) = false := by simp; omega
  clear hd hf hsy h
  go_enter Tryz.func18, Tryz.ntmps18
  go_wp2_with fail
  refine q1.mono ?_
  rintro e w1 ⟨j, rfl, hj, hB, hD, hm⟩
  have hown : (w1.alloc (.map #[] 0)).ownsMap (H := Value) Tryz.prog 3 hT w1.heap.size 0 (.map []) := World.ownsMap_made _ _ _ _
  have hbm : Below w1.heap.size w1 (w1.alloc (.map #[] 0)) := (Below.refl _ _).alloc (Nat.le_refl _) _
  have hbm2 := Below.allocS hbm (.cells #[.map (some w1.heap.size), .int .i64 (span), .pointer (some ⟨j, 0, none⟩)] 122)
  have hjl := hB.lt
  have hB2 := hB.keep hbm2
  have hD2 := ((hD.more (x := w1.heap.size) (Nat.le_refl _)).more (x := w1.heap.size + 1) (by omega)).keep hbm2
  have hown2 := hown.alloc (.cells #[.map (some w1.heap.size), .int .i64 (span), .pointer (some ⟨j, 0, none⟩)] 122)
  have hm2 := hm.trans (Mod.of_below hbm2)
  have hq : Blk ((w1.alloc (.map #[] 0)).alloc (.cells #[.map (some w1.heap.size), .int .i64 (span), .pointer (some ⟨j, 0, none⟩)] 122)) (w1.heap.size + 1) #[.map (some w1.heap.size), .int .i64 (span), .pointer (some ⟨j, 0, none⟩)] := Blk.new' (by simp)
  clear q1 hown hB hD hm
  go_wp2_with fail
  go_loopw [36] (fun s36 wr => s36 = .int .i64 0 ∧ wr = (w1.alloc (.map #[] 0)).alloc (.cells #[.map (some w1.heap.size), .int .i64 (span), .pointer (some ⟨j, 0, none⟩)] 122)) (fun s36 _ => 0)
  case atStart => exact ⟨rfl, rfl⟩
  case round =>
    obtain ⟨rfl, rfl⟩ := hrel
    go_wp2_with fail
    go_ret2
    exact ⟨j, w1.heap.size, w1.heap.size + 1, rfl, hj, hjl, by omega, hB2, hD2, hown2, hq, hm2⟩
end Go.Proofs.YthgjdaomcpinaaaGreatDoor

/- What is trusted, by heights: the store's map. -/
set_option linter.unusedSimpArgs false
set_option linter.unusedVariables false
namespace Go.Proofs.YthgjdaomcpinaaaGreatDoor
open Go.RowKit Go.WideMaps Go.Maps Go.Sort Go.Shelf Pl

/-- The value of none. -/
abbrev nilT : Value := .agg #[.int .i64 (0), .int .i64 (0), .int .i64 (0), .bool false, .string ⟨List.toArray ([])⟩, .string ⟨List.toArray ([])⟩, .string ⟨List.toArray ([])⟩, .string ⟨List.toArray ([])⟩, .string ⟨List.toArray ([])⟩, .string ⟨List.toArray ([])⟩, .slice none 0 0, .slice none 0 0, .int .i64 (0)]
theorem zeroTr (w : World) : (zeroValue 27).run Tryz.prog w = .ok nilT w := by
  have h : (Tryz.prog.info? 27).map (·.zero) = some (some nilT) := by kernel_rfl
  obtain ⟨i, hi, hz⟩ := Option.map_eq_some_iff.1 h
  simp [zeroValue, typeInfo, hi, hz]
theorem keyedI : Keyed Tryz.prog 3 := int_keyed Tryz.underlying3
theorem keyI (k : Int) (hk : -9223372036854775808 ≤ k ∧ k ≤ 9223372036854775807) : keyOf Tryz.prog 3 (.int .i64 (k)) = some (.int .i64 k) := by
  have h1 : IntKind.i64.min = -9223372036854775808 := by decide
  have h2 : IntKind.i64.max = 9223372036854775807 := by decide
  exact keyOf_int_mk Tryz.underlying3 (by simp only [Lit.wf, Bool.and_eq_true, decide_eq_true_eq, h1, h2]; exact hk)
theorem isKeyI (k : Int) : WideAt.IsKeyLit (.int .i64 k) := by first | trivial | exact ⟨_, _, rfl⟩ | simp [WideAt.IsKeyLit]
def hts (T : List (Int × Tr)) : List Int := T.map (·.1)
/-- What a map of those that are trusted holds. -/
structure TrD (w : World) (base : Nat) (D : DataW Value) (T : List (Int × Tr)) : Prop where
  has : ∀ k : Int, Maps.has D (.int .i64 k) = decide (k ∈ hts T)
  val : ∀ e ∈ T, ∃ v, D.atKey (.int .i64 e.1) (.held nilT) = .held v ∧ TRow w base v e.2
  nodup : (hts T).Nodup
  size : Maps.size D = T.length
/-- A map of those that are trusted. -/
def TrM (w : World) (base m : Nat) (T : List (Int × Tr)) : Prop := ∃ D, w.ownsMap (H := Value) Tryz.prog 3 hT m T.length D ∧ TrD w base D T
theorem TRow.keep {W w : World} {base : Nat} {v : Value} {t : Tr} (h : TRow W base v t) (hb : Below W.heap.size W w) : TRow w base v t := by
  obtain ⟨sk, ms, h1, h2, h3⟩ := h
  exact ⟨sk, ms, h1, h2.keep hb, h3.keep hb⟩
theorem TrM.nil {w : World} {base m : Nat} (h : w.ownsMap (H := Value) Tryz.prog 3 hT m 0 (.map [])) : TrM w base m [] :=
  ⟨_, h, fun k => (by rw [has_eq]; simp [hts]), fun e he => (by cases he), (by simp [hts]), rfl⟩
theorem TrM.lt {w : World} {base m : Nat} {T : List (Int × Tr)} (h : TrM w base m T) : m < w.heap.size := by
  obtain ⟨D, ho, _⟩ := h
  exact ho.lt
theorem tmap_at {H : Type} {R : Value → Option (DataW H × List MemPlace)} {W w : World} {t : TypeId} {b n : Nat} {D : DataW H} (h : W.ownsMap Tryz.prog t R b n D) (hb : w.heap[b]? = W.heap[b]?) : w.ownsMap Tryz.prog t R b n D := by
  obtain ⟨es, clock, h1, h2⟩ := h
  exact ⟨es, clock, hb.trans h1, h2⟩
theorem TrM.keep {W w : World} {base m : Nat} {T : List (Int × Tr)} (h : TrM W base m T) (hb : Below W.heap.size W w) : TrM w base m T := by
  obtain ⟨D, ho, hD⟩ := h
  exact ⟨D, tmap_at ho (hb.block m ho.lt), hD.has, fun e he => (by obtain ⟨v, h1, h2⟩ := hD.val e he; exact ⟨v, h1, h2.keep hb⟩), hD.nodup, hD.size⟩
/-- v, ok := m[k]. -/
theorem TrM.look {w : World} {base m : Nat} {T : List (Int × Tr)} (h : TrM w base m T) (k : Int) (hk : -9223372036854775808 ≤ k ∧ k ≤ 9223372036854775807) :
    ∃ v, (Instr.lookup 120 (.map (some m)) (.int .i64 (k)) true).run Tryz.prog w = .ok (.tuple #[v, .bool (decide (k ∈ hts T))]) w ∧ (∀ t, (k, t) ∈ T → TRow w base v t) ∧ (k ∉ hts T → v = nilT) := by
  obtain ⟨D, ho, hD⟩ := h
  obtain ⟨v, ps, hrun, hv⟩ := ho.look_ok keyedI Tryz.underlying120 (zeroTr w) (zd := .held nilT) (zp := []) rfl (keyI k hk)
  rw [hD.has] at hrun
  refine ⟨v, hrun, fun t ht => ?_, fun hn => ?_⟩
  · obtain ⟨u, h1, h2⟩ := hD.val (k, t) ht
    rw [h1] at hv
    rw [hT_inv hv]
    exact h2
  · rw [atKey_of_not_has (by rw [hD.has]; simpa using hn)] at hv
    exact hT_inv hv
end Go.Proofs.YthgjdaomcpinaaaGreatDoor

/- The laws of the library that the sorts lean on, at this program. -/
set_option linter.unusedVariables false
namespace Go.Proofs.YthgjdaomcpinaaaGreatDoor
open Go.Shelf

def laysCloneMap_ren : Go.Shelf.Ren := ⟨fun | 5 => 70 | 7 => 125 | n => n, fun | 23 => 120 | 25 => 3 | 3 => 27 | 4 => 4 | 20 => 20 | n => n, fun | n => n⟩
theorem laysCloneMap : Go.Proofs.SlLaysW.n5 Tryz.prog laysCloneMap_ren := {
  mixed := by kernel_rfl
  f5 := ⟨Tryz.f70.name, by decide, Tryz.func70.trans (congrArg some (by kernel_rfl))⟩
  f7 := Tryz.func125.trans (congrArg some (by kernel_rfl))
  t4 := Tryz.underlying4
  a4 := Tryz.isAgg4
  z4 := Tryz.sizeOf4
  v4 := Tryz.zeroValue4
  t20 := Tryz.underlying20
  a20 := Tryz.isAgg20
  z20 := Tryz.sizeOf20
  v20 := Tryz.zeroValue20
  t23 := Tryz.underlying120
  a23 := Tryz.isAgg120
  z23 := Tryz.sizeOf120
  v23 := Tryz.zeroValue120 }

end Go.Proofs.YthgjdaomcpinaaaGreatDoor

/- What is trusted, by heights: one comes, or takes another's place. -/
set_option linter.unusedSimpArgs false
set_option linter.unusedVariables false
namespace Go.Proofs.YthgjdaomcpinaaaGreatDoor
open Go.RowKit Go.WideMaps Go.Maps Go.Sort Go.Shelf Pl

theorem TrD.new {w : World} {base : Nat} {T : List (Int × Tr)} {D : DataW Value} (h : TrD w base D T) (hD : Tidy D) (k : Int) (t : Tr) (v : Value) (hn : k ∉ hts T) (hv : TRow w base v t) : TrD w base (D.put (.int .i64 k) (.held v)) (T ++ [(k, t)]) := by
  refine ⟨fun k' => ?_, fun e he => ?_, ?_, ?_⟩
  · by_cases e : k' = k
    · subst e
      rw [has_put_same hD.isMap (isKeyI k')]
      simp [hts]
    · rw [has_put_other (by intro h; injection h with _ h; exact e h), h.has, decide_eq_decide]
      unfold hts
      rw [List.map_append, List.mem_append]
      simp [e]
  · rcases List.mem_append.1 he with he | he
    · obtain ⟨u, h1, h2⟩ := h.val e he
      have hne : e.1 ≠ k := fun h => hn (by rw [← h]; exact List.mem_map.2 ⟨e, he, rfl⟩)
      exact ⟨u, by rw [atKey_put_other (by intro h; injection h with _ h; exact hne h)]; exact h1, h2⟩
    · rw [List.mem_singleton] at he
      subst he
      exact ⟨v, atKey_put_same hD.isMap (isKeyI k) _ _, hv⟩
  · unfold hts
    rw [List.map_append, List.nodup_append]
    refine ⟨h.nodup, by simp, fun a ha b hb e => ?_⟩
    simp only [List.map_cons, List.map_nil, List.mem_singleton] at hb
    subst hb e
    exact hn ha
  · rw [size_put hD, h.has, if_neg (by simpa using hn), h.size, List.length_append]
    rfl
theorem tclone_any (base m : Nat) (T : List (Int × Tr)) (w : World) (h : TrM w base m T) :
    Calls Tryz.prog 70 #[.map (some m)] w fun e w' => e = .returned (.map (some w.heap.size)) ∧ TrM w' base w.heap.size T ∧ TrM w' base m T ∧ Below w.heap.size w w' := by
  obtain ⟨D, ho, hD⟩ := h
  refine (AnyW.maps_Clone_owns laysCloneMap 3 hT m T.length D w ho).mono ?_
  rintro e w' ⟨he, h1, h2, hb⟩
  have hD2 : TrD w' base D T := ⟨hD.has, fun e he => (by obtain ⟨v, h1, h2⟩ := hD.val e he; exact ⟨v, h1, h2.keep hb⟩), hD.nodup, hD.size⟩
  exact ⟨he, ⟨D, h1, hD2⟩, ⟨D, h2, hD2⟩, hb⟩
end Go.Proofs.YthgjdaomcpinaaaGreatDoor

/- The laws of the library that the sorts lean on, at this program. -/
set_option linter.unusedVariables false
namespace Go.Proofs.YthgjdaomcpinaaaGreatDoor
open Go.Shelf

def laysCloneS_ren : Go.Shelf.Ren := ⟨fun | 41 => 126 | n => n, fun | 22 => 22 | 23 => 9 | 4 => 4 | n => n, fun | n => n⟩
theorem laysCloneS : Go.Proofs.SlLaysE0.n41 Tryz.prog laysCloneS_ren := {
  mixed := by kernel_rfl
  f41 := ⟨Tryz.f126.name, by decide, Tryz.func126.trans (congrArg some (by kernel_rfl))⟩
  t4 := Tryz.underlying4
  a4 := Tryz.isAgg4
  z4 := Tryz.sizeOf4
  v4 := Tryz.zeroValue4
  t22 := Tryz.underlying22
  a22 := Tryz.isAgg22
  z22 := Tryz.sizeOf22
  v22 := Tryz.zeroValue22 }
def laysCloneM_ren : Go.Shelf.Ren := ⟨fun | 41 => 127 | n => n, fun | 22 => 25 | 23 => 130 | 4 => 4 | n => n, fun | n => n⟩
theorem laysCloneM : Go.Proofs.SlLaysE0.n41 Tryz.prog laysCloneM_ren := {
  mixed := by kernel_rfl
  f41 := ⟨Tryz.f127.name, by decide, Tryz.func127.trans (congrArg some (by kernel_rfl))⟩
  t4 := Tryz.underlying4
  a4 := Tryz.isAgg4
  z4 := Tryz.sizeOf4
  v4 := Tryz.zeroValue4
  t22 := Tryz.underlying25
  a22 := Tryz.isAgg25
  z22 := Tryz.sizeOf25
  v22 := Tryz.zeroValue25 }

end Go.Proofs.YthgjdaomcpinaaaGreatDoor

/- Copies of texts and of members; what is trusted as new memory (trust.own). -/
set_option linter.unusedSimpArgs false
set_option linter.unusedVariables false
namespace Go.Proofs.YthgjdaomcpinaaaGreatDoor
open Go.RowKit Go.Shelf Pl

/-- A slice of a block's own cells, or of none. -/
def PlainS (v : Value) : Prop := ∀ a n c, v = .slice a n c → a = none ∨ ∃ g off, a = some ⟨g, off, none⟩
theorem SRow.plain {w : World} {base : Nat} {v : Value} {l : List Bs} (h : SRow w base v l) : PlainS v := by
  rcases h.cells with ⟨rfl, rfl⟩ | ⟨g, cap, rfl, _⟩
  · intro a n c e
    injection e with e _ _
    exact .inl e.symm
  · intro a n c e
    injection e with e _ _
    exact .inr ⟨g, 0, e.symm⟩
theorem MRow.plain {w : World} {base : Nat} {v : Value} {l : List (Bs × Int)} (h : MRow w base v l) : PlainS v := by
  rcases h.cells with ⟨rfl, rfl⟩ | ⟨g, cap, rfl, _⟩
  · intro a n c e
    injection e with e _ _
    exact .inl e.symm
  · intro a n c e
    injection e with e _ _
    exact .inr ⟨g, 0, e.symm⟩
theorem cloneT_any (v : Value) (L : List Bs) (w : World) (h : SS w v L) (hp : PlainS v) (hL : L.length ≤ 1000000) :
    Calls Tryz.prog 126 #[v] w fun e w' => ∃ v', e = .returned v' ∧ SRow w' w.heap.size v' L ∧ Below w.heap.size w w' := by
  obtain ⟨a, cap, rfl, h1, h2, h3⟩ := h
  obtain ⟨i0, hi, hz0, hz1, hz2⟩ := info_parts infoStr
  rcases hp _ _ _ rfl with rfl | ⟨g, off, rfl⟩
  · obtain rfl : L = [] := by
      apply Classical.byContradiction
      intro hn
      obtain ⟨g, off, e, _⟩ := h3 hn
      cases e
    refine (AnyE.slices_Clone_nil laysCloneS 0 cap w).mono ?_
    rintro e w' ⟨rfl, rfl⟩
    exact ⟨_, rfl, SRow.nil _ _, Below.refl _ _⟩
  · have h4 : SSrc w g off L := by
      intro i hi
      obtain ⟨g', off', e, _, h⟩ := h3 (by intro e; rw [e] at hi; simp at hi)
      cases e
      exact h i hi
    refine (AnyE.slices_Clone laysCloneS i0 _ 1 16 hi hz0 hz1 hz2 rfl (by decide) Tryz.sizeOf9 g off L.length cap (sv L) w (by rw [sv_len]; omega) (by unfold maxLen; omega) (by omega) (fun j u hj => ?_) (sone L)).mono ?_
    · have hj2 : j < L.length := by
        have := (List.getElem?_eq_some_iff.1 hj).1
        rw [sv_len] at this; exact this
      rw [h4 j hj2]
      rw [← hj]
      simp [sv, List.getD, List.getElem?_eq_getElem hj2]
    · rintro e w' ⟨v', rfl, hr, _, hb⟩
      exact ⟨v', rfl, hr, hb⟩
theorem cloneM_any (v : Value) (L : List (Bs × Int)) (w : World) (h : MS w v L) (hp : PlainS v) (hL : L.length ≤ 1000000) :
    Calls Tryz.prog 127 #[v] w fun e w' => ∃ v', e = .returned v' ∧ MRow w' w.heap.size v' L ∧ Below w.heap.size w w' := by
  obtain ⟨a, cap, rfl, h1, h2, h3⟩ := h
  obtain ⟨i0, hi, hz0, hz1, hz2⟩ := info_parts infoMem
  rcases hp _ _ _ rfl with rfl | ⟨g, off, rfl⟩
  · obtain rfl : L = [] := by
      apply Classical.byContradiction
      intro hn
      obtain ⟨g, off, e, _⟩ := h3 hn
      cases e
    refine (AnyE.slices_Clone_nil laysCloneM 0 cap w).mono ?_
    rintro e w' ⟨rfl, rfl⟩
    exact ⟨_, rfl, MRow.nil _ _, Below.refl _ _⟩
  · have h4 : MSrc w g off L := by
      intro i hi
      obtain ⟨g', off', e, _, h⟩ := h3 (by intro e; rw [e] at hi; simp at hi)
      cases e
      exact h i hi
    refine (AnyE.slices_Clone laysCloneM i0 _ 2 24 hi hz0 hz1 hz2 rfl (by decide) Tryz.sizeOf130 g off L.length cap (mv L) w (mv_len L) (by unfold maxLen; omega) (by omega) (fun j u hj => ?_) (mone L)).mono ?_
    · have hj2 : j < L.length * 2 := by
        have := (List.getElem?_eq_some_iff.1 hj).1
        rw [mv_len] at this; exact this
      obtain ⟨i, rfl | rfl⟩ : ∃ i, j = i * 2 ∨ j = i * 2 + 1 := ⟨j / 2, by omega⟩
      · rw [(h4 i (by omega)).1, ← hj, (mv_at L i (by omega)).1]
      · rw [show off + (i * 2 + 1) = off + i * 2 + 1 from by omega, (h4 i (by omega)).2, ← hj, (mv_at L i (by omega)).2]
    · rintro e w' ⟨v', rfl, hr, _, hb⟩
      exact ⟨v', rfl, hr, hb⟩
end Go.Proofs.YthgjdaomcpinaaaGreatDoor

/- What is trusted as new memory (trust.own). -/
set_option linter.unusedSimpArgs false
set_option linter.unusedVariables false
namespace Go.Proofs.YthgjdaomcpinaaaGreatDoor
open Go.RowKit Go.Shelf Pl

set_option maxRecDepth 100000 in
set_option maxHeartbeats 2000000 in
theorem tr_own (a1 a2 a3 : Int) (lb : Bool) (pa st rc tx me ne : Bs) (K : List Bs) (L : List (Bs × Int)) (ta : Int) (sk ms : Value) (w : World) (h1 : SS w sk K) (h2 : MS w ms L) (p1 : PlainS sk) (p2 : PlainS ms) (l1 : K.length ≤ 1000000) (l2 : L.length ≤ 1000000) :
    Calls Tryz.prog 72 #[.agg #[.int .i64 (a1), .int .i64 (a2), .int .i64 (a3), .bool lb, .string ⟨List.toArray (pa)⟩, .string ⟨List.toArray (st)⟩, .string ⟨List.toArray (rc)⟩, .string ⟨List.toArray (tx)⟩, .string ⟨List.toArray (me)⟩, .string ⟨List.toArray (ne)⟩, sk, ms, .int .i64 (ta)]] w fun e w' => ∃ v, e = .returned v ∧ TRow w' w.heap.size v ⟨⟨a1, a2, a3, lb, pa, st, rc, tx, me, ne, K⟩, L, ta⟩ ∧ Below w.heap.size w w' := by
  have B0 : Blk (w.alloc (.cells #[.int .i64 (a1), .int .i64 (a2), .int .i64 (a3), .bool lb, .string ⟨List.toArray (pa)⟩, .string ⟨List.toArray (st)⟩, .string ⟨List.toArray (rc)⟩, .string ⟨List.toArray (tx)⟩, .string ⟨List.toArray (me)⟩, .string ⟨List.toArray (ne)⟩, sk, ms, .int .i64 (ta)] 27)) w.heap.size #[.int .i64 (a1), .int .i64 (a2), .int .i64 (a3), .bool lb, .string ⟨List.toArray (pa)⟩, .string ⟨List.toArray (st)⟩, .string ⟨List.toArray (rc)⟩, .string ⟨List.toArray (tx)⟩, .string ⟨List.toArray (me)⟩, .string ⟨List.toArray (ne)⟩, sk, ms, .int .i64 (ta)] := Blk.new _ _ _
  have hb0 : Below w.heap.size w (w.alloc (.cells #[.int .i64 (a1), .int .i64 (a2), .int .i64 (a3), .bool lb, .string ⟨List.toArray (pa)⟩, .string ⟨List.toArray (st)⟩, .string ⟨List.toArray (rc)⟩, .string ⟨List.toArray (tx)⟩, .string ⟨List.toArray (me)⟩, .string ⟨List.toArray (ne)⟩, sk, ms, .int .i64 (ta)] 27)) := Below.allocS (Below.refl _ _) _
  have B1 := B0.alloc (.cells #[.int .i64 (0), .int .i64 (0), .int .i64 (0), .bool false, .string ⟨List.toArray ([])⟩, .string ⟨List.toArray ([])⟩, .string ⟨List.toArray ([])⟩, .string ⟨List.toArray ([])⟩, .string ⟨List.toArray ([])⟩, .string ⟨List.toArray ([])⟩, .slice none 0 0, .slice none 0 0, .int .i64 (0)] 27)
  have hb1 := Below.allocS hb0 (.cells #[.int .i64 (0), .int .i64 (0), .int .i64 (0), .bool false, .string ⟨List.toArray ([])⟩, .string ⟨List.toArray ([])⟩, .string ⟨List.toArray ([])⟩, .string ⟨List.toArray ([])⟩, .string ⟨List.toArray ([])⟩, .string ⟨List.toArray ([])⟩, .slice none 0 0, .slice none 0 0, .int .i64 (0)] 27)
  have Z1 : Blk ((w.alloc (.cells #[.int .i64 (a1), .int .i64 (a2), .int .i64 (a3), .bool lb, .string ⟨List.toArray (pa)⟩, .string ⟨List.toArray (st)⟩, .string ⟨List.toArray (rc)⟩, .string ⟨List.toArray (tx)⟩, .string ⟨List.toArray (me)⟩, .string ⟨List.toArray (ne)⟩, sk, ms, .int .i64 (ta)] 27)).alloc (.cells #[.int .i64 (0), .int .i64 (0), .int .i64 (0), .bool false, .string ⟨List.toArray ([])⟩, .string ⟨List.toArray ([])⟩, .string ⟨List.toArray ([])⟩, .string ⟨List.toArray ([])⟩, .string ⟨List.toArray ([])⟩, .string ⟨List.toArray ([])⟩, .slice none 0 0, .slice none 0 0, .int .i64 (0)] 27)) (w.heap.size + 1) (List.toArray [.int .i64 (0), .int .i64 (0), .int .i64 (0), .bool false, .string ⟨List.toArray ([])⟩, .string ⟨List.toArray ([])⟩, .string ⟨List.toArray ([])⟩, .string ⟨List.toArray ([])⟩, .string ⟨List.toArray ([])⟩, .string ⟨List.toArray ([])⟩, .slice none 0 0, .slice none 0 0, .int .i64 (0)]) := Blk.new' (by simp)
  have q1 := cloneT_any sk K _ (h1.keep hb1) p1 l1
  obtain ⟨b1, b2, b3⟩ := id B1
  go_enter Tryz.func72, Tryz.ntmps72
  go_wp2_with fail
  refine q1.mono ?_
  rintro e w1 ⟨sk', rfl, r1, hb⟩
  have hs1 : w.heap.size + 2 ≤ w1.heap.size := by have := hb.size; simpa using this
  have B2 := B1.keep hb
  have Z2 := Z1.keep hb
  have hb2 := hb1.trans (hb.mono hb1.size)
  have r1 := SRow.low (c := w.heap.size + 2) r1 (by simp)
  obtain ⟨va, vc, rfl⟩ := r1.form
  clear q1 hb b1 b2 b3 B0 B1 Z1 hb0 hb1
  have m3 := (Mod.refl [w.heap.size] w1).setCell (p := ⟨w.heap.size, 10, none⟩) (.inl (by simp)) (.slice va K.length vc)
  have B3 : Blk (w1.setCell ⟨w.heap.size, 10, none⟩ (.slice va K.length vc)) w.heap.size #[.int .i64 (a1), .int .i64 (a2), .int .i64 (a3), .bool lb, .string ⟨List.toArray (pa)⟩, .string ⟨List.toArray (st)⟩, .string ⟨List.toArray (rc)⟩, .string ⟨List.toArray (tx)⟩, .string ⟨List.toArray (me)⟩, .string ⟨List.toArray (ne)⟩, .slice va K.length vc, ms, .int .i64 (ta)] := by simpa using B2.set 10 (.slice va K.length vc)
  have Z3 := Z2.mod m3 (by simp)
  have hb3 := Below.mod hb2 m3 hb2.size (by simp)
  have r3 := SRow.mod r1 m3 (by omega)
  have q2 := cloneM_any ms L _ (h2.keep hb3) p2 l2
  obtain ⟨b1, b2, b3⟩ := id B2
  obtain ⟨c1, c2, c3⟩ := id B3
  go_wp2_with fail
  refine q2.mono ?_
  rintro e w4 ⟨ms', rfl, r4, hb⟩
  obtain ⟨ua, uc, rfl⟩ := r4.form
  have hs4 : w1.heap.size ≤ w4.heap.size := by have := hb.size; simpa using this
  have B4 := B3.keep hb
  have Z4 := Z3.keep hb
  have hb4 := hb3.trans (hb.mono hb3.size)
  have r5 := r3.keep hb
  have r4 := MRow.low (c := w.heap.size + 2) r4 (by simpa using hs1)
  clear q2 hb b1 b2 b3 c1 c2 c3 B2 B3 Z2 Z3 hb2 hb3 m3 r1 r3
  have m5 := (Mod.refl [w.heap.size] w4).setCell (p := ⟨w.heap.size, 11, none⟩) (.inl (by simp)) (.slice ua L.length uc)
  have B5 : Blk (w4.setCell ⟨w.heap.size, 11, none⟩ (.slice ua L.length uc)) w.heap.size (List.toArray [.int .i64 (a1), .int .i64 (a2), .int .i64 (a3), .bool lb, .string ⟨List.toArray (pa)⟩, .string ⟨List.toArray (st)⟩, .string ⟨List.toArray (rc)⟩, .string ⟨List.toArray (tx)⟩, .string ⟨List.toArray (me)⟩, .string ⟨List.toArray (ne)⟩, .slice va K.length vc, .slice ua L.length uc, .int .i64 (ta)]) := by simpa using B4.set 11 (.slice ua L.length uc)
  have Z5 := Z4.mod m5 (by simp)
  have hb5 := Below.mod hb4 m5 hb4.size (by simp)
  have r6 := SRow.mod r5 m5 (by omega)
  have r7 := MRow.mod r4 m5 (by omega)
  obtain ⟨b1, b2, b3⟩ := id B4
  clear Z4 hb4 r5 r4 m5
  go_wp2_with (first | (refine wpList_rowLoad row_trust rfl (.tmp 1) rfl rfl (vs := [.int .i64 (a1), .int .i64 (a2), .int .i64 (a3), .bool lb, .string ⟨List.toArray (pa)⟩, .string ⟨List.toArray (st)⟩, .string ⟨List.toArray (rc)⟩, .string ⟨List.toArray (tx)⟩, .string ⟨List.toArray (me)⟩, .string ⟨List.toArray (ne)⟩, .slice va K.length vc, .slice ua L.length uc, .int .i64 (ta)]) rfl B5 ?_) | (refine wpList_rowStore row_trust rfl rfl (.tmp 2) (.tmp 13) rfl rfl rfl (vs := [.int .i64 (a1), .int .i64 (a2), .int .i64 (a3), .bool lb, .string ⟨List.toArray (pa)⟩, .string ⟨List.toArray (st)⟩, .string ⟨List.toArray (rc)⟩, .string ⟨List.toArray (tx)⟩, .string ⟨List.toArray (me)⟩, .string ⟨List.toArray (ne)⟩, .slice va K.length vc, .slice ua L.length uc, .int .i64 (ta)]) rfl (by simp [Value.oneCell']) (us := [.int .i64 (0), .int .i64 (0), .int .i64 (0), .bool false, .string ⟨List.toArray ([])⟩, .string ⟨List.toArray ([])⟩, .string ⟨List.toArray ([])⟩, .string ⟨List.toArray ([])⟩, .string ⟨List.toArray ([])⟩, .string ⟨List.toArray ([])⟩, .slice none 0 0, .slice none 0 0, .int .i64 (0)]) rfl Z5 ?_; intro w6 N6 m6))
  have hld := row_loadVar row_trust w6 (vs := [.int .i64 (a1), .int .i64 (a2), .int .i64 (a3), .bool lb, .string ⟨List.toArray (pa)⟩, .string ⟨List.toArray (st)⟩, .string ⟨List.toArray (rc)⟩, .string ⟨List.toArray (tx)⟩, .string ⟨List.toArray (me)⟩, .string ⟨List.toArray (ne)⟩, .slice va K.length vc, .slice ua L.length uc, .int .i64 (ta)]) rfl N6
  refine bodyPost_ret (results_cell1 rfl _ _ _ _ rfl hld) rfl ?_
  exact ⟨_, rfl, ⟨_, _, rfl, SRow.low (r6.mod m6 (by omega)) (by omega), MRow.low (r7.mod m6 (by omega)) (by omega)⟩, Below.mod hb5 m6 hb5.size (by simp)⟩
end Go.Proofs.YthgjdaomcpinaaaGreatDoor

/- trust.Store.At of a height that is there. The program's walk. -/
set_option linter.unusedSimpArgs false
set_option linter.unusedVariables false
namespace Go.Proofs.YthgjdaomcpinaaaGreatDoor
open Go.RowKit Go.WideMaps Go.Maps Go.Sort Go.Shelf Pl

namespace Pl
def staleT (span now : Int) (t : Tr) : Bool := decide (0 ≤ now) && decide (t.at_ ≤ now - span)
end Pl
set_option maxRecDepth 100000 in
set_option maxHeartbeats 4000000 in
theorem tat_any (base q m : Nat) (span : Int) (jp : Value) (T : List (Int × Tr)) (k now : Int) (t : Tr) (hk : -9223372036854775808 ≤ k ∧ k ≤ 9223372036854775807) (hn : -9223372036854775808 ≤ now ∧ now ≤ 9223372036854775807) (hs : 0 ≤ span ∧ span ≤ 1099511627776) (hin : (k, t) ∈ T) (l1 : t.head.skips.length ≤ 1000000) (l2 : t.set.length ≤ 1000000) (w : World) (hM : TrM w base m T) (B : Blk w q #[.map (some m), .int .i64 (span), jp]) :
    Calls Tryz.prog 32 #[.pointer (some ⟨q, 0, none⟩), .int .i64 (k), .int .i64 (now)] w fun e w' => ∃ v, e = .returned (.tuple #[v, .int .i64 (if staleT span now t then 330 else 0)]) ∧ (if staleT span now t = true then v = nilT else TRow w' w.heap.size v t) ∧ Below w.heap.size w w' := by
  have Z0 : Blk (w.alloc (.cells #[.int .i64 (0), .int .i64 (0), .int .i64 (0), .bool false, .string ⟨List.toArray ([])⟩, .string ⟨List.toArray ([])⟩, .string ⟨List.toArray ([])⟩, .string ⟨List.toArray ([])⟩, .string ⟨List.toArray ([])⟩, .string ⟨List.toArray ([])⟩, .slice none 0 0, .slice none 0 0, .int .i64 (0)] 27)) w.heap.size (List.toArray [.int .i64 (0), .int .i64 (0), .int .i64 (0), .bool false, .string ⟨List.toArray ([])⟩, .string ⟨List.toArray ([])⟩, .string ⟨List.toArray ([])⟩, .string ⟨List.toArray ([])⟩, .string ⟨List.toArray ([])⟩, .string ⟨List.toArray ([])⟩, .slice none 0 0, .slice none 0 0, .int .i64 (0)]) := Blk.new _ _ _
  have hb0 : Below w.heap.size w (w.alloc (.cells #[.int .i64 (0), .int .i64 (0), .int .i64 (0), .bool false, .string ⟨List.toArray ([])⟩, .string ⟨List.toArray ([])⟩, .string ⟨List.toArray ([])⟩, .string ⟨List.toArray ([])⟩, .string ⟨List.toArray ([])⟩, .string ⟨List.toArray ([])⟩, .slice none 0 0, .slice none 0 0, .int .i64 (0)] 27)) := Below.allocS (Below.refl _ _) _
  obtain ⟨v, hrun, hv, _⟩ := (hM.keep hb0).look k hk
  have hv := hv t hin
  have hmem : decide (k ∈ hts T) = true := decide_eq_true (List.mem_map.2 ⟨(k, t), hin, rfl⟩)
  rw [hmem] at hrun
  have q1 := fun (v : Value) (W : World) (B : Blk W q #[.map (some m), .int .i64 (span), jp]) (hv : TV W v t) => tr_stale q (.map (some m)) span jp v t now hs hn W B hv
  rw [show (decide (0 ≤ now) && decide (t.at_ ≤ now - span)) = staleT span now t from rfl] at q1
  generalize staleT span now t = st at *
  obtain ⟨⟨a1, a2, a3, lb, pa, sr, rc, tx, me, ne, K⟩, L, ta⟩ := t
  obtain ⟨sk, ms, rfl, h1, h2⟩ := hv
  simp only at h1 h2 l1 l2 q1 hrun
  have h1p := h1.plain
  have h2p := h2.plain
  have q2 := fun (W : World) (h1 : SS W sk K) (h2 : MS W ms L) => tr_own a1 a2 a3 lb pa sr rc tx me ne K L ta sk ms W h1 h2 h1p h2p l1 l2
  obtain ⟨ka, kc, rfl⟩ := h1.form
  obtain ⟨ma, mc, rfl⟩ := h2.form
  have B1 := B.keep hb0
  obtain ⟨b1, b2, b3⟩ := id B
  have B0 := B
  clear hM B hmem hin
  go_enter Tryz.func32, Tryz.ntmps32
  go_wp2_with (first | (refine wpList_rowStore row_trust rfl rfl (.tmp 8) (.tmp 17) rfl rfl rfl (vs := [.int .i64 (a1), .int .i64 (a2), .int .i64 (a3), .bool lb, .string ⟨List.toArray (pa)⟩, .string ⟨List.toArray (sr)⟩, .string ⟨List.toArray (rc)⟩, .string ⟨List.toArray (tx)⟩, .string ⟨List.toArray (me)⟩, .string ⟨List.toArray (ne)⟩, .slice ka K.length kc, .slice ma L.length mc, .int .i64 (ta)]) rfl (by simp [Value.oneCell']) (us := [.int .i64 (0), .int .i64 (0), .int .i64 (0), .bool false, .string ⟨List.toArray ([])⟩, .string ⟨List.toArray ([])⟩, .string ⟨List.toArray ([])⟩, .string ⟨List.toArray ([])⟩, .string ⟨List.toArray ([])⟩, .string ⟨List.toArray ([])⟩, .slice none 0 0, .slice none 0 0, .int .i64 (0)]) rfl (Blk.new' (by simp)) ?_; intro w2 N2 m2) | (refine wpList_rowLoad row_trust rfl (.tmp 8) rfl rfl (vs := [.int .i64 (a1), .int .i64 (a2), .int .i64 (a3), .bool lb, .string ⟨List.toArray (pa)⟩, .string ⟨List.toArray (sr)⟩, .string ⟨List.toArray (rc)⟩, .string ⟨List.toArray (tx)⟩, .string ⟨List.toArray (me)⟩, .string ⟨List.toArray (ne)⟩, .slice ka K.length kc, .slice ma L.length mc, .int .i64 (ta)]) rfl N2 ?_))
  have hb1 := Below.allocS hb0 (.cells #[.int .i64 (0), .int .i64 (0), .int .i64 (0), .bool false, .string ⟨List.toArray ([])⟩, .string ⟨List.toArray ([])⟩, .string ⟨List.toArray ([])⟩, .string ⟨List.toArray ([])⟩, .string ⟨List.toArray ([])⟩, .string ⟨List.toArray ([])⟩, .slice none 0 0, .slice none 0 0, .int .i64 (0)] 27)
  have hb2 := Below.mod hb1 m2 hb1.size (by simp)
  have hsz2 : w.heap.size + 2 ≤ w2.heap.size := by have := m2.size; simpa using this
  have B2 := B0.keep hb2
  have Z2 := (Z0.alloc (.cells #[.int .i64 (0), .int .i64 (0), .int .i64 (0), .bool false, .string ⟨List.toArray ([])⟩, .string ⟨List.toArray ([])⟩, .string ⟨List.toArray ([])⟩, .string ⟨List.toArray ([])⟩, .string ⟨List.toArray ([])⟩, .string ⟨List.toArray ([])⟩, .slice none 0 0, .slice none 0 0, .int .i64 (0)] 27)).mod m2 (by simp)
  have hbx : Below (w.alloc (.cells #[.int .i64 (0), .int .i64 (0), .int .i64 (0), .bool false, .string ⟨List.toArray ([])⟩, .string ⟨List.toArray ([])⟩, .string ⟨List.toArray ([])⟩, .string ⟨List.toArray ([])⟩, .string ⟨List.toArray ([])⟩, .string ⟨List.toArray ([])⟩, .slice none 0 0, .slice none 0 0, .int .i64 (0)] 27)).heap.size (w.alloc (.cells #[.int .i64 (0), .int .i64 (0), .int .i64 (0), .bool false, .string ⟨List.toArray ([])⟩, .string ⟨List.toArray ([])⟩, .string ⟨List.toArray ([])⟩, .string ⟨List.toArray ([])⟩, .string ⟨List.toArray ([])⟩, .string ⟨List.toArray ([])⟩, .slice none 0 0, .slice none 0 0, .int .i64 (0)] 27)) w2 := Below.mod (Below.allocS (Below.refl _ _) _) m2 (by simp) (by simp)
  have g1 := h1.keep hbx
  have g2 := h2.keep hbx
  have q1 := q1 (.agg #[.int .i64 (a1), .int .i64 (a2), .int .i64 (a3), .bool lb, .string ⟨List.toArray (pa)⟩, .string ⟨List.toArray (sr)⟩, .string ⟨List.toArray (rc)⟩, .string ⟨List.toArray (tx)⟩, .string ⟨List.toArray (me)⟩, .string ⟨List.toArray (ne)⟩, .slice ka K.length kc, .slice ma L.length mc, .int .i64 (ta)]) w2 B2 ⟨_, _, rfl, g1.ss, g2.ms⟩
  clear Z0 hb0 B1 b1 b2 b3 h1 h2 hrun hb1
  refine q1.mono ?_
  rintro e w3 ⟨rfl, hb⟩
  have hb3 := hb2.trans (hb.mono hb2.size)
  have hs3 := hb.size
  have Z3 := Z2.keep hb
  have N3 := N2.keep hb
  have g3 := g1.keep hb
  have g4 := g2.keep hb
  clear q1 hb Z2 N2 g1 g2 B2 hb2 hbx
  cases st
  · have q2 := q2 w3 g3.ss g4.ms
    go_wp2_with (first | (refine wpList_rowLoadG row_trust ?hw (.tmp 8) rfl rfl (vs := [.int .i64 (a1), .int .i64 (a2), .int .i64 (a3), .bool lb, .string ⟨List.toArray (pa)⟩, .string ⟨List.toArray (sr)⟩, .string ⟨List.toArray (rc)⟩, .string ⟨List.toArray (tx)⟩, .string ⟨List.toArray (me)⟩, .string ⟨List.toArray (ne)⟩, .slice ka K.length kc, .slice ma L.length mc, .int .i64 (ta)]) rfl N3 ?_; (case hw => rfl)))
    refine q2.mono ?_
    rintro e w4 ⟨_, rfl, ⟨sk2, ms2, rfl, r1, r2⟩, hb⟩
    have r1 : SRow w4 w3.heap.size sk2 K := r1
    have r2 : MRow w4 w3.heap.size ms2 L := r2
    obtain ⟨xa, xc, rfl⟩ := r1.form
    obtain ⟨ya, yc, rfl⟩ := r2.form
    have Z4 := Z3.keep hb
    have hb4 := hb3.trans (hb.mono hb3.size)
    clear q2 hb Z3 N3 g3 g4 hb3
    go_wp2_with (first | (refine wpList_rowStore row_trust rfl rfl (.tmp 6) (.tmp 30) rfl rfl rfl (vs := [.int .i64 (a1), .int .i64 (a2), .int .i64 (a3), .bool lb, .string ⟨List.toArray (pa)⟩, .string ⟨List.toArray (sr)⟩, .string ⟨List.toArray (rc)⟩, .string ⟨List.toArray (tx)⟩, .string ⟨List.toArray (me)⟩, .string ⟨List.toArray (ne)⟩, .slice xa K.length xc, .slice ya L.length yc, .int .i64 (ta)]) rfl (by simp [Value.oneCell']) (us := [.int .i64 (0), .int .i64 (0), .int .i64 (0), .bool false, .string ⟨List.toArray ([])⟩, .string ⟨List.toArray ([])⟩, .string ⟨List.toArray ([])⟩, .string ⟨List.toArray ([])⟩, .string ⟨List.toArray ([])⟩, .string ⟨List.toArray ([])⟩, .slice none 0 0, .slice none 0 0, .int .i64 (0)]) rfl Z4 ?_; intro w5 N5 m5))
    have hld := row_loadVar row_trust w5 (vs := [.int .i64 (a1), .int .i64 (a2), .int .i64 (a3), .bool lb, .string ⟨List.toArray (pa)⟩, .string ⟨List.toArray (sr)⟩, .string ⟨List.toArray (rc)⟩, .string ⟨List.toArray (tx)⟩, .string ⟨List.toArray (me)⟩, .string ⟨List.toArray (ne)⟩, .slice xa K.length xc, .slice ya L.length yc, .int .i64 (ta)]) rfl N5
    refine bodyPost_ret (results_cell_tmp2 rfl _ _ _ _ rfl hld) rfl ?_
    exact ⟨_, rfl, ⟨_, _, rfl, SRow.low (r1.mod m5 (by omega)) (by omega), MRow.low (r2.mod m5 (by omega)) (by omega)⟩, Below.mod hb4 m5 hb4.size (by simp)⟩
  · go_wp2_with (first | (refine wpList_rowStore row_trust rfl rfl (.tmp 6) (.tmp 28) rfl rfl rfl (vs := [.int .i64 (0), .int .i64 (0), .int .i64 (0), .bool false, .string ⟨List.toArray ([])⟩, .string ⟨List.toArray ([])⟩, .string ⟨List.toArray ([])⟩, .string ⟨List.toArray ([])⟩, .string ⟨List.toArray ([])⟩, .string ⟨List.toArray ([])⟩, .slice none 0 0, .slice none 0 0, .int .i64 (0)]) rfl (by simp [Value.oneCell']) (us := [.int .i64 (0), .int .i64 (0), .int .i64 (0), .bool false, .string ⟨List.toArray ([])⟩, .string ⟨List.toArray ([])⟩, .string ⟨List.toArray ([])⟩, .string ⟨List.toArray ([])⟩, .string ⟨List.toArray ([])⟩, .string ⟨List.toArray ([])⟩, .slice none 0 0, .slice none 0 0, .int .i64 (0)]) rfl Z3 ?_; intro w5 N5 m5))
    have hld := row_loadVar row_trust w5 (vs := [.int .i64 (0), .int .i64 (0), .int .i64 (0), .bool false, .string ⟨List.toArray ([])⟩, .string ⟨List.toArray ([])⟩, .string ⟨List.toArray ([])⟩, .string ⟨List.toArray ([])⟩, .string ⟨List.toArray ([])⟩, .string ⟨List.toArray ([])⟩, .slice none 0 0, .slice none 0 0, .int .i64 (0)]) rfl N5
    refine bodyPost_ret (results_cell_tmp2 rfl _ _ _ _ rfl hld) rfl ?_
    have hlast := Below.mod hb3 m5 hb3.size (by simp)
    first | exact ⟨_, rfl, rfl, hlast⟩ | exact ⟨_, rfl, hlast⟩ | exact ⟨⟨_, rfl⟩, hlast⟩ | (refine ⟨?_, hlast⟩; exact ⟨_, rfl⟩) | (simp; exact hlast) | simpa using hlast
end Go.Proofs.YthgjdaomcpinaaaGreatDoor

/- Lists of those that are trusted, to be read; one comes into the store's map, or takes another's place. -/
set_option linter.unusedSimpArgs false
set_option linter.unusedVariables false
namespace Go.Proofs.YthgjdaomcpinaaaGreatDoor
open Go.RowKit Go.WideMaps Go.Maps Go.Sort Go.Shelf Pl

namespace Pl
/-- One comes, or takes another's place. -/
def putK (T : List (Int × Tr)) (k : Int) (t : Tr) : List (Int × Tr) := if k ∈ T.map (·.1) then T.map (fun e => if e.1 = k then (k, t) else e) else T ++ [(k, t)]
end Pl
theorem putK_new {T : List (Int × Tr)} {k : Int} {t : Tr} (h : k ∉ hts T) : putK T k t = T ++ [(k, t)] := if_neg h
theorem putK_again {T : List (Int × Tr)} {k : Int} {t : Tr} (h : k ∈ hts T) : putK T k t = T.map (fun e => if e.1 = k then (k, t) else e) := if_pos h
theorem hts_map (T : List (Int × Tr)) (k : Int) (t : Tr) : hts (T.map (fun e => if e.1 = k then (k, t) else e)) = hts T := by
  unfold hts
  rw [List.map_map]
  apply List.map_congr_left
  intro e _
  simp only [Function.comp]
  split
  · rename_i h; exact h.symm
  · rfl
theorem ownsMap_tight {H : Type} {R : Value → Option (DataW H × List MemPlace)} {w : World} {t : TypeId} {b n : Nat} {D : DataW H} (h : w.ownsMap Tryz.prog t R b n D) : w.ownsMap Tryz.prog t R b (Maps.size D) D := by
  obtain ⟨es, clock, hb, F, hs, rfl⟩ := h
  exact ⟨es, clock, hb, F, by simp [Maps.size, length_sorted], rfl⟩
theorem TrD.again {w : World} {base : Nat} {T : List (Int × Tr)} {D : DataW Value} (h : TrD w base D T) (hD : Tidy D) (k : Int) (t : Tr) (v : Value) (hn : k ∈ hts T) (hv : TRow w base v t) : TrD w base (D.put (.int .i64 k) (.held v)) (T.map (fun e => if e.1 = k then (k, t) else e)) := by
  refine ⟨fun k' => ?_, fun e he => ?_, ?_, ?_⟩
  · rw [hts_map]
    by_cases e : k' = k
    · subst e
      rw [has_put_same hD.isMap (isKeyI k')]
      simp [hn]
    · rw [has_put_other (by intro h; injection h with _ h; exact e h), h.has]
  · obtain ⟨x, hx, rfl⟩ := List.mem_map.1 he
    by_cases hxk : x.1 = k
    · simp only [hxk, if_true]
      exact ⟨v, atKey_put_same hD.isMap (isKeyI k) _ _, hv⟩
    · simp only [hxk, if_false]
      obtain ⟨u, h1, h2⟩ := h.val x hx
      exact ⟨u, by rw [atKey_put_other (by intro h; injection h with _ h; exact hxk h)]; exact h1, h2⟩
  · rw [hts_map]
    exact h.nodup
  · rw [size_put hD, h.has, if_pos (by simpa using hn), h.size, List.length_map]
theorem SRow.notmap {w : World} {base m g : Nat} {v : Value} {l : List Bs} {es : Array MapEntry} {c : Nat} (h : SRow w base v l) (hm : w.heap[m]? = some (.map es c)) (hk : v.ownBlock = some g) : g ≠ m := by
  intro e
  subst e
  rcases h.2 with ⟨rfl, _⟩ | ⟨g', cap, cur, rfl, h1, h2, _⟩
  · cases hk
  · cases hk
    rw [hm] at h2
    cases h2
theorem MRow.notmap {w : World} {base m g : Nat} {v : Value} {l : List (Bs × Int)} {es : Array MapEntry} {c : Nat} (h : MRow w base v l) (hm : w.heap[m]? = some (.map es c)) (hk : v.ownBlock = some g) : g ≠ m := by
  intro e
  subst e
  rcases h.2 with ⟨rfl, _⟩ | ⟨g', cap, cur, rfl, h1, h2, _⟩
  · cases hk
  · cases hk
    rw [hm] at h2
    cases h2
theorem ownsMap_block {H : Type} {R : Value → Option (DataW H × List MemPlace)} {w : World} {t : TypeId} {b n : Nat} {D : DataW H} (h : w.ownsMap Tryz.prog t R b n D) : ∃ es c, w.heap[b]? = some (.map es c) := by
  obtain ⟨es, c, h1, _⟩ := h
  exact ⟨es, c, h1⟩
theorem SRow.grown {w w' : World} {base m : Nat} {v : Value} {l : List Bs} {es : Array MapEntry} {c : Nat} (h : SRow w base v l) (hm : w.heap[m]? = some (.map es c)) (hg : w.grownBy w' (some m)) : SRow w' base v l :=
  h.kept (fun k hk => hg.block k (by
    rcases h.cells with ⟨rfl, _⟩ | ⟨g, cap, rfl, _, h2, _⟩
    · cases hk
    · cases hk; exact h2) (by intro e; injection e with e; exact h.notmap hm hk e))
theorem MRow.grown {w w' : World} {base m : Nat} {v : Value} {l : List (Bs × Int)} {es : Array MapEntry} {c : Nat} (h : MRow w base v l) (hm : w.heap[m]? = some (.map es c)) (hg : w.grownBy w' (some m)) : MRow w' base v l :=
  h.kept (fun k hk => hg.block k (by
    rcases h.cells with ⟨rfl, _⟩ | ⟨g, cap, rfl, _, h2, _⟩
    · cases hk
    · cases hk; exact h2) (by intro e; injection e with e; exact h.notmap hm hk e))
theorem TRow.grown {w w' : World} {base m : Nat} {v : Value} {t : Tr} {es : Array MapEntry} {c : Nat} (h : TRow w base v t) (hm : w.heap[m]? = some (.map es c)) (hg : w.grownBy w' (some m)) : TRow w' base v t := by
  obtain ⟨sk, ms, h1, h2, h3⟩ := h
  exact ⟨sk, ms, h1, h2.grown hm hg, h3.grown hm hg⟩
/-- m[k] = v. -/
theorem TrM.update {w : World} {base m : Nat} {T : List (Int × Tr)} (h : TrM w base m T) (hl : T.length < 1000000) (k : Int) (hk : -9223372036854775808 ≤ k ∧ k ≤ 9223372036854775807) (t : Tr) (v : Value) (hv : TRow w base v t) :
    ∃ w', (Instr.mapUpdate 120 (.map (some m)) (.int .i64 (k)) v).run Tryz.prog w = .ok () w' ∧ TrM w' base m (putK T k t) ∧ w.grownBy w' (some m) := by
  obtain ⟨D, ho, hD⟩ := h
  have htd := ho.tidy keyedI
  obtain ⟨es, c, hm⟩ := ownsMap_block ho
  obtain ⟨w', hrun, ho2, hg⟩ := ho.update keyedI Tryz.underlying120 (by unfold maxLen; omega) (keyI k hk) (show hT v = some (.held v, []) from rfl)
  refine ⟨w', hrun, ⟨D.put (.int .i64 k) (.held v), ?_, ?_⟩, hg⟩
  · have h2 := ownsMap_tight ho2
    rw [size_put htd, hD.has] at h2
    by_cases hin : k ∈ hts T
    · rw [if_pos (by simpa using hin), hD.size] at h2
      rw [putK_again hin, List.length_map]
      exact h2
    · rw [if_neg (by simpa using hin), hD.size] at h2
      rw [putK_new hin, List.length_append]
      exact h2
  · have hD2 : TrD w' base D T := ⟨hD.has, fun e he => (by obtain ⟨u, h1, h2⟩ := hD.val e he; exact ⟨u, h1, h2.grown hm hg⟩), hD.nodup, hD.size⟩
    by_cases hin : k ∈ hts T
    · rw [putK_again hin]
      exact hD2.again htd k t v hin (hv.grown hm hg)
    · rw [putK_new hin]
      exact hD2.new htd k t v hin (hv.grown hm hg)
theorem TrM.nodup {w : World} {base m : Nat} {T : List (Int × Tr)} (h : TrM w base m T) : (hts T).Nodup := by
  obtain ⟨D, _, hD⟩ := h
  exact hD.nodup
theorem TrM.block {w : World} {base m : Nat} {T : List (Int × Tr)} (h : TrM w base m T) : ∃ es c, w.heap[m]? = some (.map es c) := by
  obtain ⟨D, ho, _⟩ := h
  exact ownsMap_block ho
/-- The cells of one that is trusted. -/
def tcs (t : Tr) (sk ms : Value) : List Value := [.int .i64 (t.head.height), .int .i64 (t.head.epoch), .int .i64 (t.head.view), .bool t.head.last, .string ⟨List.toArray (t.head.parent)⟩, .string ⟨List.toArray (t.head.state)⟩, .string ⟨List.toArray (t.head.receipts)⟩, .string ⟨List.toArray (t.head.txs)⟩, .string ⟨List.toArray (t.head.members)⟩, .string ⟨List.toArray (t.head.next)⟩, sk, ms, .int .i64 (t.at_)]
/-- A list of those that are trusted, in a block. -/
def TSrc (w : World) (g o : Nat) (l : List Tr) : Prop := ∀ i t, l[i]? = some t → ∃ sk ms, w.rangeAt g (o + i * 13) (tcs t sk ms) ∧ SS w sk t.head.skips ∧ MS w ms t.set ∧ PlainS sk ∧ PlainS ms
def TL (w : World) (v : Value) (l : List Tr) : Prop :=
  ∃ a cap, v = .slice a l.length cap ∧ l.length ≤ cap ∧ cap ≤ maxLen ∧ (l ≠ [] → ∃ g off, a = some ⟨g, off, none⟩ ∧ g < w.heap.size ∧ TSrc w g off l)
theorem rangeAt_keep {W w : World} {b o : Nat} {cs : List Value} (h : W.rangeAt b o cs) (hlt : b < W.heap.size) (hb : Below W.heap.size W w) : w.rangeAt b o cs := by
  intro j v hj
  exact (hb.cell (p := ⟨b, o + j, none⟩) hlt).trans (h j v hj)
theorem TSrc.keep {W w : World} {g o : Nat} {l : List Tr} (h : TSrc W g o l) (hlt : g < W.heap.size) (hb : Below W.heap.size W w) : TSrc w g o l := by
  intro i t hi
  obtain ⟨sk, ms, h1, h2, h3, h4, h5⟩ := h i t hi
  exact ⟨sk, ms, rangeAt_keep h1 hlt hb, h2.keep hb, h3.keep hb, h4, h5⟩
theorem TL.keep {W w : World} {v : Value} {l : List Tr} (h : TL W v l) (hb : Below W.heap.size W w) : TL w v l := by
  obtain ⟨a, cap, h1, h2, h3, h4⟩ := h
  refine ⟨a, cap, h1, h2, h3, fun hn => ?_⟩
  obtain ⟨g, off, e, hg, hs⟩ := h4 hn
  exact ⟨g, off, e, Nat.lt_of_lt_of_le hg hb.size, hs.keep hg hb⟩
theorem TL.form {w : World} {v : Value} {l : List Tr} (h : TL w v l) : ∃ a c, v = .slice a l.length c := by
  obtain ⟨a, c, e, _⟩ := h
  exact ⟨a, c, e⟩
theorem TL.small {w : World} {v : Value} {l : List Tr} (h : TL w v l) : l.length ≤ 9223372036854775807 := by
  obtain ⟨a, c, e, h1, h2, _⟩ := h
  unfold maxLen at h2
  omega
theorem TL.at {w : World} {a : Option Addr} {c : Nat} {l : List Tr} (h : TL w (.slice a l.length c) l) (i : Nat) (t : Tr) (hi : l[i]? = some t) :
    ∃ g off sk ms, a = some ⟨g, off, none⟩ ∧ g < w.heap.size ∧ w.rangeAt g (off + i * 13) (tcs t sk ms) ∧ SS w sk t.head.skips ∧ MS w ms t.set ∧ PlainS sk ∧ PlainS ms := by
  obtain ⟨a', c', e, h1, h2, h4⟩ := h
  injection e with e _ _
  subst e
  obtain ⟨g, off, e, hg, hs⟩ := h4 (by intro e; subst e; simp at hi)
  obtain ⟨sk, ms, r⟩ := hs i t hi
  exact ⟨g, off, sk, ms, e, hg, r⟩
section
variable {P : Program} {T : TypeId} {n : Nat} {ops : Array Oper} {rest : List Oper} {op : Oper} {a : Act} {w : World} {Q : Exit → Act → World → Prop}
theorem wpList_rowLoadAt (hT : RowT P T n) (hgd : op.guard = none) (x : Operand) (ho : op.op = .load T x) {b o : Nat} (hx : a.eval x = .pointer (some ⟨b, o, none⟩)) {vs : List Value} (hl : vs.length = n) (hB : w.rangeAt b o vs)
    (h : wpList P ops Q rest (a.put op.dst (.agg vs.toArray)) w) : wpList P ops Q (op :: rest) a w := by
  obtain ⟨⟨d, h1, h2⟩, h3⟩ := hT
  exact wpList_load_mid hgd T x ho b o hx vs d hB h1 h2 (by rw [hl]; exact h3) h
end
end Go.Proofs.YthgjdaomcpinaaaGreatDoor

/- trust.Store.Add: some are there. The program's walk. -/
set_option linter.unusedSimpArgs false
set_option linter.unusedVariables false
namespace Go.Proofs.YthgjdaomcpinaaaGreatDoor
open Go.RowKit Go.WideMaps Go.Maps Go.Sort Go.Shelf Pl

namespace Pl
/-- The texts that tell what comes. -/
def batchT (l : List Tr) : List Bs := l.map (fun t => 1 :: writT t)
/-- Is another header there already? -/
def clashT (T : List (Int × Tr)) (t : Tr) : Bool := T.any (fun e => decide (e.1 = t.head.height) && !decide ((encHR e.2.head).1 = (encHR t.head).1))
/-- A map behind what comes; none: another header is there. -/
def addsT : List Tr → List (Int × Tr) → Option (List (Int × Tr))
  | [], T => some T
  | t :: r, T => if clashT T t = true then none else addsT r (putK T t.head.height t)
/-- What comes of Add. -/
def addD (d : Dk) (T : List (Int × Tr)) (l : List Tr) : Dk × List (Int × Tr) × Int × Bool :=
  if l.all fineT = false then (d, T, 3, false) else match addsT l T with
    | none => (d, T, 6, false)
    | some T' => if l = [] then (d, T', 0, false) else if (writeD d (batchT l)).2 = 0 then ((writeD d (batchT l)).1, T', 0, tornD (writeD d (batchT l)).2) else ((writeD d (batchT l)).1, T, (writeD d (batchT l)).2, tornD (writeD d (batchT l)).2)
end Pl
theorem addD_bad {d : Dk} {T : List (Int × Tr)} {l : List Tr} (h : l.all fineT = false) : addD d T l = (d, T, 3, false) := by
  unfold addD
  rw [if_pos h]
theorem addD_there {d : Dk} {T : List (Int × Tr)} {l : List Tr} (h : l.all fineT = true) (h2 : addsT l T = none) : addD d T l = (d, T, 6, false) := by
  unfold addD
  rw [if_neg (by simp [h]), h2]
theorem addD_none {d : Dk} {T T' : List (Int × Tr)} (h2 : addsT [] T = some T') : addD d T [] = (d, T', 0, false) := by
  unfold addD
  rw [if_neg (by simp), h2]
  simp
theorem addD_yes {d : Dk} {T T' : List (Int × Tr)} {l : List Tr} (h : l.all fineT = true) (h2 : addsT l T = some T') (hn : l ≠ []) (h3 : (writeD d (batchT l)).2 = 0) : addD d T l = ((writeD d (batchT l)).1, T', 0, tornD (writeD d (batchT l)).2) := by
  unfold addD
  rw [if_neg (by simp [h]), h2]
  simp only
  rw [if_neg hn, if_pos h3]
theorem addD_no {d : Dk} {T T' : List (Int × Tr)} {l : List Tr} (h : l.all fineT = true) (h2 : addsT l T = some T') (hn : l ≠ []) (h3 : (writeD d (batchT l)).2 ≠ 0) : addD d T l = ((writeD d (batchT l)).1, T, (writeD d (batchT l)).2, tornD (writeD d (batchT l)).2) := by
  unfold addD
  rw [if_neg (by simp [h]), h2]
  simp only
  rw [if_neg hn, if_neg h3]
theorem clashT_new {T : List (Int × Tr)} {t : Tr} (h : t.head.height ∉ hts T) : clashT T t = false := by
  unfold clashT
  rw [List.any_eq_false]
  intro e he
  have : e.1 ≠ t.head.height := fun h2 => h (h2 ▸ List.mem_map.2 ⟨e, he, rfl⟩)
  simp [this]
theorem hts_one {T : List (Int × Tr)} (hn : (hts T).Nodup) {k : Int} {a b : Tr} (h1 : (k, a) ∈ T) (h2 : (k, b) ∈ T) : a = b := by
  induction T with
  | nil => cases h1
  | cons x r ih =>
    unfold hts at hn ih
    rw [List.map_cons, List.nodup_cons] at hn
    rcases List.mem_cons.1 h1 with e1 | e1 <;> rcases List.mem_cons.1 h2 with e2 | e2
    · rw [← e1] at e2
      injection e2 with _ e2
      exact e2.symm
    · exact absurd (List.mem_map.2 ⟨_, e2, by rw [← e1]⟩) hn.1
    · exact absurd (List.mem_map.2 ⟨_, e1, by rw [← e2]⟩) hn.1
    · exact ih hn.2 e1 e2
theorem clashT_there {T : List (Int × Tr)} {t o : Tr} (hn : (hts T).Nodup) (h : (t.head.height, o) ∈ T) : clashT T t = !decide ((encHR o.head).1 = (encHR t.head).1) := by
  cases hd : decide ((encHR o.head).1 = (encHR t.head).1)
  · unfold clashT
    rw [Bool.not_false, List.any_eq_true]
    exact ⟨_, h, by simp [hd]⟩
  · unfold clashT
    rw [Bool.not_true, List.any_eq_false]
    intro e he
    by_cases hk : e.1 = t.head.height
    · have := hts_one hn h (b := e.2) (by rw [← hk]; exact he)
      subst this
      simp [hd]
    · simp [hk]
theorem addsT_clash {T : List (Int × Tr)} {t : Tr} {r : List Tr} (h : clashT T t = true) : addsT (t :: r) T = none := by
  unfold addsT
  rw [if_pos h]
theorem addsT_step {T : List (Int × Tr)} {t : Tr} {r : List Tr} (h : clashT T t = false) : addsT (t :: r) T = addsT r (putK T t.head.height t) := by
  rw [addsT, if_neg (by simp [h])]
theorem putK_len (T : List (Int × Tr)) (k : Int) (t : Tr) : (putK T k t).length ≤ T.length + 1 := by
  unfold putK
  split <;> simp
theorem dropT (l : List Tr) (i : Nat) (t : Tr) (h : l[i]? = some t) : l.drop i = t :: l.drop (i + 1) := by
  obtain ⟨hi, e⟩ := List.getElem?_eq_some_iff.1 h
  rw [List.drop_eq_getElem_cons hi, e]
theorem batch_snoc (l : List Tr) (i : Nat) (t : Tr) (h : l[i]? = some t) : batchT (l.take (i + 1)) = batchT (l.take i) ++ [1 :: writT t] := by
  obtain ⟨hi, e⟩ := List.getElem?_eq_some_iff.1 h
  unfold batchT
  rw [List.take_succ_eq_append_getElem hi, List.map_append, e]
  rfl
theorem batch_len (l : List Tr) : (batchT l).length = l.length := by unfold batchT; rw [List.length_map]
theorem fine_step (l : List Tr) (i : Nat) (t : Tr) (h : l[i]? = some t) (hf : fineT t = true) (ha : (l.take i).all fineT = true) : (l.take (i + 1)).all fineT = true := by
  obtain ⟨hi, e⟩ := List.getElem?_eq_some_iff.1 h
  rw [List.take_succ_eq_append_getElem hi, List.all_append, ha, e]
  simp [hf]
theorem fine_stop (l : List Tr) (i : Nat) (t : Tr) (h : l[i]? = some t) (hf : fineT t = false) : l.all fineT = false := by
  rw [List.all_eq_false]
  exact ⟨t, List.mem_of_getElem? h, by simp [hf]⟩
set_option maxRecDepth 100000 in
set_option maxHeartbeats 1000000 in
theorem twrite_nil (q : Nat) (a : Option Addr) (c : Nat) (w : World) :
    Calls Tryz.prog 73 #[.pointer (some ⟨q, 0, none⟩), .slice a 0 c] w fun e w' => e = .returned (.int .i64 (0)) ∧ w' = w := by
  go_enter Tryz.func73, Tryz.ntmps73
  go_wp2_with fail
  go_ret
  exact ⟨rfl, rfl⟩
end Go.Proofs.YthgjdaomcpinaaaGreatDoor
