/- TList, TAdd, TAddW, THts, TFirst, Shelf10, Shelf11. -/
import Derived.Shelf.Slices.Reverse
import Derived.Shelf.Slices.SearchI
import Derived.Test.YthgjdaomcpinaaaGreatDoorMp26
set_option linter.unnecessarySimpa false
set_option linter.unusedSimpArgs false
set_option linter.unusedVariables false
set_option maxRecDepth 100000
set_option maxHeartbeats 32000000
namespace Go.Proofs.YthgjdaomcpinaaaGreatDoor
open Go.RowKit Go.WideMaps Go.Maps Go.Sort Go.Shelf Pl
namespace Pl
def putK (T : List (Int × Tr)) (k : Int) (t : Tr) : List (Int × Tr) := if k ∈ T.map (·.1) then T.map (fun e => if e.1 = k then (k, t) else e) else T ++ [(k, t)]
end Pl
theorem putK_new {T : List (Int × Tr)} {k : Int} {t : Tr} (h : k ∉ hts T) : putK T k t = T ++ [(k, t)] := if_neg h
theorem putK_again {T : List (Int × Tr)} {k : Int} {t : Tr} (h : k ∈ hts T) : putK T k t = T.map (fun e => if e.1 = k then (k, t) else e) := if_pos h
theorem hts_map (T : List (Int × Tr)) (k : Int) (t : Tr) : hts (T.map (fun e => if e.1 = k then (k, t) else e)) = hts T := by
 unfold hts
 rw [List.map_map]
 apply List.map_congr_left
 intro e _
 simp only [Function.comp]
 split
 ·rename_i h; exact h.symm
 ·rfl
theorem ownsMap_tight {H : Type} {R : Value → Option (DataW H × List MemPlace)} {w : World} {t : TypeId} {b n : Nat} {D : DataW H} (h : w.ownsMap Tryz.prog t R b n D) : w.ownsMap Tryz.prog t R b (Maps.size D) D := by
 obtain ⟨es, clock, hb, F, hs, rfl⟩ := h
 exact ⟨es, clock, hb, F, by simp [Maps.size, length_sorted], rfl⟩
theorem TrD.again {w : World} {base : Nat} {T : List (Int × Tr)} {D : DataW Value} (h : TrD w base D T) (hD : Tidy D) (k : Int) (t : Tr) (v : Value) (hn : k ∈ hts T) (hv : TRow w base v t) : TrD w base (D.put (.int .i64 k) (.held v)) (T.map (fun e => if e.1 = k then (k, t) else e)) := by
 refine ⟨fun k' => ?_, fun e he => ?_, ?_, ?_⟩
 ·rw [hts_map]
  by_cases e : k' = k
  ·subst e
   rw [has_put_same hD.isMap (isKeyI k')]
   simp [hn]
  ·rw [has_put_other (by intro h; injection h with _ h; exact e h), h.has]
 ·obtain ⟨x, hx, rfl⟩ := List.mem_map.1 he
  by_cases hxk : x.1 = k
  ·simp only [hxk, if_true]
   exact ⟨v, atKey_put_same hD.isMap (isKeyI k) _ _, hv⟩
  ·simp only [hxk, if_false]
   obtain ⟨u, h1, h2⟩ := h.val x hx
   exact ⟨u, by rw [atKey_put_other (by intro h; injection h with _ h; exact hxk h)]; exact h1, h2⟩
 ·rw [hts_map]
  exact h.nodup
 ·rw [size_put hD, h.has, if_pos (by simpa using hn), h.size, List.length_map]
theorem SRow.notmap {w : World} {base m g : Nat} {v : Value} {l : List Bs} {es : Array MapEntry} {c : Nat} (h : SRow w base v l) (hm : w.heap[m]? = some (.map es c)) (hk : v.ownBlock = some g) : g ≠ m := by
 intro e
 subst e
 rcases h.2 with ⟨rfl, _⟩ | ⟨g', cap, cur, rfl, h1, h2, _⟩
 ·cases hk
 ·cases hk
  rw [hm] at h2
  cases h2
theorem MRow.notmap {w : World} {base m g : Nat} {v : Value} {l : List (Bs × Int)} {es : Array MapEntry} {c : Nat} (h : MRow w base v l) (hm : w.heap[m]? = some (.map es c)) (hk : v.ownBlock = some g) : g ≠ m := by
 intro e
 subst e
 rcases h.2 with ⟨rfl, _⟩ | ⟨g', cap, cur, rfl, h1, h2, _⟩
 ·cases hk
 ·cases hk
  rw [hm] at h2
  cases h2
theorem ownsMap_block {H : Type} {R : Value → Option (DataW H × List MemPlace)} {w : World} {t : TypeId} {b n : Nat} {D : DataW H} (h : w.ownsMap Tryz.prog t R b n D) : ∃ es c, w.heap[b]? = some (.map es c) := by
 obtain ⟨es, c, h1, _⟩ := h
 exact ⟨es, c, h1⟩
theorem SRow.grown {w w' : World} {base m : Nat} {v : Value} {l : List Bs} {es : Array MapEntry} {c : Nat} (h : SRow w base v l) (hm : w.heap[m]? = some (.map es c)) (hg : w.grownBy w' (some m)) : SRow w' base v l :=
 h.kept (fun k hk => hg.block k (by
  rcases h.cells with ⟨rfl, _⟩ | ⟨g, cap, rfl, _, h2, _⟩
  ·cases hk
  ·cases hk; exact h2) (by intro e; injection e with e; exact h.notmap hm hk e))
theorem MRow.grown {w w' : World} {base m : Nat} {v : Value} {l : List (Bs × Int)} {es : Array MapEntry} {c : Nat} (h : MRow w base v l) (hm : w.heap[m]? = some (.map es c)) (hg : w.grownBy w' (some m)) : MRow w' base v l :=
 h.kept (fun k hk => hg.block k (by
  rcases h.cells with ⟨rfl, _⟩ | ⟨g, cap, rfl, _, h2, _⟩
  ·cases hk
  ·cases hk; exact h2) (by intro e; injection e with e; exact h.notmap hm hk e))
theorem TRow.grown {w w' : World} {base m : Nat} {v : Value} {t : Tr} {es : Array MapEntry} {c : Nat} (h : TRow w base v t) (hm : w.heap[m]? = some (.map es c)) (hg : w.grownBy w' (some m)) : TRow w' base v t := by
 obtain ⟨sk, ms, h1, h2, h3⟩ := h
 exact ⟨sk, ms, h1, h2.grown hm hg, h3.grown hm hg⟩
theorem TrM.update {w : World} {base m : Nat} {T : List (Int × Tr)} (h : TrM w base m T) (hl : T.length < 1000000) (k : Int) (hk : -9223372036854775808 ≤ k ∧ k ≤ 9223372036854775807) (t : Tr) (v : Value) (hv : TRow w base v t) :
  ∃ w', (Instr.mapUpdate 120 (.map (some m)) (.int .i64 k) v).run Tryz.prog w = .ok () w' ∧ TrM w' base m (putK T k t) ∧ w.grownBy w' (some m) := by
 obtain ⟨D, ho, hD⟩ := h
 have htd := ho.tidy keyedI
 obtain ⟨es, c, hm⟩ := ownsMap_block ho
 obtain ⟨w', hrun, ho2, hg⟩ := ho.update keyedI Tryz.underlying120 (by unfold maxLen; omega) (keyI k hk) (show hT v = some (.held v, []) from rfl)
 refine ⟨w', hrun, ⟨D.put (.int .i64 k) (.held v), ?_, ?_⟩, hg⟩
 ·have h2 := ownsMap_tight ho2
  rw [size_put htd, hD.has] at h2
  by_cases hin : k ∈ hts T
  ·rw [if_pos (by simpa using hin), hD.size] at h2
   rw [putK_again hin, List.length_map]
   exact h2
  ·rw [if_neg (by simpa using hin), hD.size] at h2
   rw [putK_new hin, List.length_append]
   exact h2
 ·have hD2 : TrD w' base D T := ⟨hD.has, fun e he => (by obtain ⟨u, h1, h2⟩ := hD.val e he; exact ⟨u, h1, h2.grown hm hg⟩), hD.nodup, hD.size⟩
  by_cases hin : k ∈ hts T
  ·rw [putK_again hin]
   exact hD2.again htd k t v hin (hv.grown hm hg)
  ·rw [putK_new hin]
   exact hD2.new htd k t v hin (hv.grown hm hg)
theorem TrM.nodup {w : World} {base m : Nat} {T : List (Int × Tr)} (h : TrM w base m T) : (hts T).Nodup := by
 obtain ⟨D, _, hD⟩ := h
 exact hD.nodup
theorem TrM.block {w : World} {base m : Nat} {T : List (Int × Tr)} (h : TrM w base m T) : ∃ es c, w.heap[m]? = some (.map es c) := by
 obtain ⟨D, ho, _⟩ := h
 exact ownsMap_block ho
def tcs (t : Tr) (sk ms : Value) : List Value := [.int .i64 t.head.height, .int .i64 t.head.epoch, .int .i64 t.head.view, .bool t.head.last, .string ⟨List.toArray t.head.parent⟩, .string ⟨List.toArray t.head.state⟩, .string ⟨List.toArray t.head.receipts⟩, .string ⟨List.toArray t.head.txs⟩, .string ⟨List.toArray t.head.members⟩, .string ⟨List.toArray t.head.next⟩, sk, ms, .int .i64 t.at_]
def TSrc (w : World) (g o : Nat) (l : List Tr) : Prop := ∀ i t, l[i]? = some t → ∃ sk ms, w.rangeAt g (o + i * 13) (tcs t sk ms) ∧ SS w sk t.head.skips ∧ MS w ms t.set ∧ PlainS sk ∧ PlainS ms
def TL (w : World) (v : Value) (l : List Tr) : Prop :=
 ∃ a cap, v = .slice a l.length cap ∧ l.length ≤ cap ∧ cap ≤ maxLen ∧ (l ≠ [] → ∃ g off, a = some ⟨g, off, none⟩ ∧ g < w.heap.size ∧ TSrc w g off l)
theorem rangeAt_keep {W w : World} {b o : Nat} {cs : List Value} (h : W.rangeAt b o cs) (hlt : b < W.heap.size) (hb : Below W.heap.size W w) : w.rangeAt b o cs := by
 intro j v hj
 exact (hb.cell (p := ⟨b, o + j, none⟩) hlt).trans (h j v hj)
theorem TSrc.keep {W w : World} {g o : Nat} {l : List Tr} (h : TSrc W g o l) (hlt : g < W.heap.size) (hb : Below W.heap.size W w) : TSrc w g o l := by
 intro i t hi
 obtain ⟨sk, ms, h1, h2, h3, h4, h5⟩ := h i t hi
 exact ⟨sk, ms, rangeAt_keep h1 hlt hb, h2.keep hb, h3.keep hb, h4, h5⟩
theorem TL.keep {W w : World} {v : Value} {l : List Tr} (h : TL W v l) (hb : Below W.heap.size W w) : TL w v l := by
 obtain ⟨a, cap, h1, h2, h3, h4⟩ := h
 refine ⟨a, cap, h1, h2, h3, fun hn => ?_⟩
 obtain ⟨g, off, e, hg, hs⟩ := h4 hn
 exact ⟨g, off, e, Nat.lt_of_lt_of_le hg hb.size, hs.keep hg hb⟩
theorem TL.form {w : World} {v : Value} {l : List Tr} (h : TL w v l) : ∃ a c, v = .slice a l.length c := by
 obtain ⟨a, c, e, _⟩ := h
 exact ⟨a, c, e⟩
theorem TL.small {w : World} {v : Value} {l : List Tr} (h : TL w v l) : l.length ≤ 9223372036854775807 := by
 obtain ⟨a, c, e, h1, h2, _⟩ := h
 unfold maxLen at h2
 omega
theorem TL.at {w : World} {a : Option Addr} {c : Nat} {l : List Tr} (h : TL w (.slice a l.length c) l) (i : Nat) (t : Tr) (hi : l[i]? = some t) :
  ∃ g off sk ms, a = some ⟨g, off, none⟩ ∧ g < w.heap.size ∧ w.rangeAt g (off + i * 13) (tcs t sk ms) ∧ SS w sk t.head.skips ∧ MS w ms t.set ∧ PlainS sk ∧ PlainS ms := by
 obtain ⟨a', c', e, h1, h2, h4⟩ := h
 injection e with e _ _
 subst e
 obtain ⟨g, off, e, hg, hs⟩ := h4 (by intro e; subst e; simp at hi)
 obtain ⟨sk, ms, r⟩ := hs i t hi
 exact ⟨g, off, sk, ms, e, hg, r⟩
section
variable {P : Program} {T : TypeId} {n : Nat} {ops : Array Oper} {rest : List Oper} {op : Oper} {a : Act} {w : World} {Q : Exit → Act → World → Prop}
theorem wpList_rowLoadAt (hT : RowT P T n) (hgd : op.guard = none) (x : Operand) (ho : op.op = .load T x) {b o : Nat} (hx : a.eval x = .pointer (some ⟨b, o, none⟩)) {vs : List Value} (hl : vs.length = n) (hB : w.rangeAt b o vs)
  (h : wpList P ops Q rest (a.put op.dst (.agg vs.toArray)) w) : wpList P ops Q (op :: rest) a w := by
 obtain ⟨⟨d, h1, h2⟩, h3⟩ := hT
 exact wpList_load_mid hgd T x ho b o hx vs d hB h1 h2 (by rw [hl]; exact h3) h
end
end Go.Proofs.YthgjdaomcpinaaaGreatDoor
namespace Go.Proofs.YthgjdaomcpinaaaGreatDoor
open Go.RowKit Go.WideMaps Go.Maps Go.Sort Go.Shelf Pl
namespace Pl
def batchT (l : List Tr) : List Bs := l.map (fun t => 1 :: writT t)
def clashT (T : List (Int × Tr)) (t : Tr) : Bool := T.any (fun e => decide (e.1 = t.head.height) && !decide ((encHR e.2.head).1 = (encHR t.head).1))
def addsT : List Tr → List (Int × Tr) → Option (List (Int × Tr))
 | [], T => some T
 | t :: r, T => if clashT T t = true then none else addsT r (putK T t.head.height t)
def addD (d : Dk) (T : List (Int × Tr)) (l : List Tr) : Dk × List (Int × Tr) × Int × Bool :=
 if l.all fineT = false then (d, T, 3, false) else match addsT l T with
  | none => (d, T, 6, false)
  | some T' => if l = [] then (d, T', 0, false) else if (writeD d (batchT l)).2 = 0 then ((writeD d (batchT l)).1, T', 0, tornD (writeD d (batchT l)).2) else ((writeD d (batchT l)).1, T, (writeD d (batchT l)).2, tornD (writeD d (batchT l)).2)
end Pl
theorem addD_yes {d : Dk} {T T' : List (Int × Tr)} {l : List Tr} (h : l.all fineT = true) (h2 : addsT l T = some T') (hn : l ≠ []) (h3 : (writeD d (batchT l)).2 = 0) : addD d T l = ((writeD d (batchT l)).1, T', 0, tornD (writeD d (batchT l)).2) := by
 unfold addD
 rw [if_neg (by simp [h]), h2]
 simp only
 rw [if_neg hn, if_pos h3]
theorem clashT_new {T : List (Int × Tr)} {t : Tr} (h : t.head.height ∉ hts T) : clashT T t = false := by
 unfold clashT
 rw [List.any_eq_false]
 intro e he
 have : e.1 ≠ t.head.height := fun h2 => h (h2 ▸ List.mem_map.2 ⟨e, he, rfl⟩)
 simp [this]
theorem hts_one {T : List (Int × Tr)} (hn : (hts T).Nodup) {k : Int} {a b : Tr} (h1 : (k, a) ∈ T) (h2 : (k, b) ∈ T) : a = b := by
 induction T with
 | nil => cases h1
 | cons x r ih =>
  unfold hts at hn ih
  rw [List.map_cons, List.nodup_cons] at hn
  rcases List.mem_cons.1 h1 with e1 | e1 <;> rcases List.mem_cons.1 h2 with e2 | e2
  ·rw [← e1] at e2
   injection e2 with _ e2
   exact e2.symm
  ·exact absurd (List.mem_map.2 ⟨_, e2, by rw [← e1]⟩) hn.1
  ·exact absurd (List.mem_map.2 ⟨_, e1, by rw [← e2]⟩) hn.1
  ·exact ih hn.2 e1 e2
theorem clashT_there {T : List (Int × Tr)} {t o : Tr} (hn : (hts T).Nodup) (h : (t.head.height, o) ∈ T) : clashT T t = !decide ((encHR o.head).1 = (encHR t.head).1) := by
 cases hd : decide ((encHR o.head).1 = (encHR t.head).1)
 ·unfold clashT
  rw [Bool.not_false, List.any_eq_true]
  exact ⟨_, h, by simp [hd]⟩
 ·unfold clashT
  rw [Bool.not_true, List.any_eq_false]
  intro e he
  by_cases hk : e.1 = t.head.height
  ·have := hts_one hn h (b := e.2) (by rw [← hk]; exact he)
   subst this
   simp [hd]
  ·simp [hk]
theorem addsT_clash {T : List (Int × Tr)} {t : Tr} {r : List Tr} (h : clashT T t = true) : addsT (t :: r) T = none := by
 unfold addsT
 rw [if_pos h]
theorem addsT_step {T : List (Int × Tr)} {t : Tr} {r : List Tr} (h : clashT T t = false) : addsT (t :: r) T = addsT r (putK T t.head.height t) := by
 rw [addsT, if_neg (by simp [h])]
theorem putK_len (T : List (Int × Tr)) (k : Int) (t : Tr) : (putK T k t).length ≤ T.length + 1 := by
 unfold putK
 split <;> simp
theorem dropT (l : List Tr) (i : Nat) (t : Tr) (h : l[i]? = some t) : l.drop i = t :: l.drop (i + 1) := by
 obtain ⟨hi, e⟩ := List.getElem?_eq_some_iff.1 h
 rw [List.drop_eq_getElem_cons hi, e]
theorem batch_snoc (l : List Tr) (i : Nat) (t : Tr) (h : l[i]? = some t) : batchT (l.take (i + 1)) = batchT (l.take i) ++ [1 :: writT t] := by
 obtain ⟨hi, e⟩ := List.getElem?_eq_some_iff.1 h
 unfold batchT
 rw [List.take_succ_eq_append_getElem hi, List.map_append, e]
 rfl
theorem batch_len (l : List Tr) : (batchT l).length = l.length := by unfold batchT; rw [List.length_map]
theorem fine_step (l : List Tr) (i : Nat) (t : Tr) (h : l[i]? = some t) (hf : fineT t = true) (ha : (l.take i).all fineT = true) : (l.take (i + 1)).all fineT = true := by
 obtain ⟨hi, e⟩ := List.getElem?_eq_some_iff.1 h
 rw [List.take_succ_eq_append_getElem hi, List.all_append, ha, e]
 simp [hf]
theorem fine_stop (l : List Tr) (i : Nat) (t : Tr) (h : l[i]? = some t) (hf : fineT t = false) : l.all fineT = false := by
 rw [List.all_eq_false]
 exact ⟨t, List.mem_of_getElem? h, by simp [hf]⟩
theorem twrite_nil (q : Nat) (a : Option Addr) (c : Nat) (w : World) :
  Calls Tryz.prog 73 #[.pointer (some ⟨q, 0, none⟩), .slice a 0 c] w fun e w' => e = .returned (.int .i64 0) ∧ w' = w := by
 go_enter Tryz.func73, Tryz.ntmps73
 go_wp2_with fail
 go_ret
 exact ⟨rfl, rfl⟩
end Go.Proofs.YthgjdaomcpinaaaGreatDoor
namespace Go.Proofs.YthgjdaomcpinaaaGreatDoor
open Go.RowKit Go.WideMaps Go.Maps Go.Sort Go.Shelf Pl
theorem SRow.at_lt {w : World} {base k : Nat} {v : Value} {l : List Bs} (h : SRow w base v l) (hk : v.ownBlock = some k) : k < w.heap.size := by
 rcases h.cells with ⟨rfl, _⟩ | ⟨g, cap, rfl, _, h2, _⟩
 ·cases hk
 ·cases hk; exact h2
theorem may_at {l : List Tr} (h : mayR (batchT l) = true) {i : Nat} {t : Tr} (hi : l[i]? = some t) : (writT t).length ≤ 65536 := by
 unfold mayR at h
 simp only [Bool.and_eq_true, List.all_eq_true, decide_eq_true_eq] at h
 have := h.1.2 (1 :: writT t) (List.mem_map.2 ⟨t, List.mem_of_getElem? hi, rfl⟩)
 simp at this
 omega
theorem TRow.low {w : World} {base c : Nat} {v : Value} {t : Tr} (h : TRow w base v t) (hc : c ≤ base) : TRow w c v t := by
 obtain ⟨sk, ms, h1, h2, h3⟩ := h
 exact ⟨sk, ms, h1, h2.low hc, h3.low hc⟩
theorem TRow.drew {w : World} {base : Nat} {v : Value} {t : Tr} (h : TRow w base v t) : TRow w.drew base v t := by
 obtain ⟨sk, ms, h1, h2, h3⟩ := h
 exact ⟨sk, ms, h1, h2.drew, h3.kept (fun k _ => rfl)⟩
theorem TrM.drew {w : World} {base m : Nat} {T : List (Int × Tr)} (h : TrM w base m T) : TrM w.drew base m T := by
 obtain ⟨D, ho, hD⟩ := h
 exact ⟨D, ho.drew, hD.has, fun e he => (by obtain ⟨v, h1, h2⟩ := hD.val e he; exact ⟨v, h1, h2.drew⟩), hD.nodup, hD.size⟩
theorem MRow.at_lt {w : World} {base k : Nat} {v : Value} {l : List (Bs × Int)} (h : MRow w base v l) (hk : v.ownBlock = some k) : k < w.heap.size := by
 rcases h.cells with ⟨rfl, _⟩ | ⟨g, cap, rfl, _, h2, _⟩
 ·cases hk
 ·cases hk; exact h2
theorem TRow.modl {w w' : World} {base : Nat} {l : List Nat} {v : Value} {t : Tr} (h : TRow w base v t) (hm : Mod l w w') (hl : ∀ x ∈ l, x < base) : TRow w' base v t := by
 obtain ⟨sk, ms, h1, h2, h3⟩ := h
 exact ⟨sk, ms, h1, h2.kept (fun k hk => hm.block k (h2.at_lt hk) (fun hi => absurd (hl k hi) (Nat.not_lt.2 (h2.own k hk)))), h3.kept (fun k hk => hm.block k (h3.at_lt hk) (fun hi => absurd (hl k hi) (Nat.not_lt.2 (h3.own k hk))))⟩
theorem TrM.modl {w w' : World} {base m : Nat} {l : List Nat} {T : List (Int × Tr)} (h : TrM w base m T) (hm : Mod l w w') (hl : ∀ x ∈ l, x < base) (hn : m ∉ l) : TrM w' base m T := by
 obtain ⟨D, ho, hD⟩ := h
 exact ⟨D, tmap_at ho (hm.block m ho.lt hn), hD.has, fun e he => (by obtain ⟨v, h1, h2⟩ := hD.val e he; exact ⟨v, h1, h2.modl hm hl⟩), hD.nodup, hD.size⟩
theorem Blk.notmap {w : World} {b m : Nat} {cs : Array Value} {es : Array MapEntry} {c : Nat} (h : Blk w b cs) (hc : cs[0]?.isSome = true) (hm : w.heap[m]? = some (.map es c)) : m ≠ b := by
 intro e
 subst e
 have h1 := h.cell 0
 unfold World.cell? at h1
 rw [hm] at h1
 rw [← h1] at hc
 cases hc
theorem wp_mapT {o : Oper} {a : Act} {w : World} {K : Act → World → Prop} {Q : Exit → Act → World → Prop} (m x v : Operand) (hop : o.op = Op.mapUpdate 120 m x v)
  {base b : Nat} {T : List (Int × Tr)} (hm : a.eval m = .map (some b)) (hM : TrM w base b T) (hl : T.length < 1000000) (k : Int) (hk : -9223372036854775808 ≤ k ∧ k ≤ 9223372036854775807) {t : Tr} {vv : Value} (hx : a.eval x = .int .i64 k) (hv : a.eval v = vv) (hr : TRow w base vv t)
  (hK : ∀ w', TrM w' base b (putK T k t) → w.grownBy w' (some b) → K (a.put o.dst undef) w') : o.wp Tryz.prog a w K Q := by
 obtain ⟨w', hrun, r1, r2⟩ := hM.update hl k hk t vv hr
 unfold Oper.wp
 simp [execOp, hop, hm, hx, hv, hrun, Result.andThen]
 exact hK w' r1 r2
end Go.Proofs.YthgjdaomcpinaaaGreatDoor
namespace Go.Proofs.YthgjdaomcpinaaaGreatDoor
open Go.RowKit Go.WideMaps Go.Maps Go.Sort Go.Shelf Pl
theorem sortsZ (m : Nat) : AnyZI.SortsIn Tryz.prog sortedT_ren Fence.wide m :=
 ⟨fun blk off cap ss W hH hblk hsz => callsIn_wide.2 (AnyM.slices_Sort_int sortT blk off cap ss W hH hblk hsz),
  fun p cap W => callsIn_wide.2 (AnyM.slices_Sort_int_none sortT p cap W)⟩
theorem keysT_any (mb : Option Nat) (W : World) : Calls Tryz.prog 76 #[.map mb] W fun e w' => e = .returned (.func (.func 137) #[] #[.pointer (some ⟨W.heap.size, 0, none⟩)]) ∧ w' = W.alloc (.cells #[.map mb] 120) :=
 (callsIn_wide (n := 5)).1 (AnyZI.keys_in keysT Fence.wide 5 trivial rfl mb W)
def sortZ (l : List Int) : List Int := l.mergeSort leI
theorem sortZ_len (l : List Int) : (sortZ l).length = l.length := List.length_mergeSort l
theorem sortZ_mem {l : List Int} {x : Int} : x ∈ sortZ l ↔ x ∈ l := List.mem_mergeSort
theorem sortZ_sorted (l : List Int) : (sortZ l).Pairwise (· ≤ ·) := by
 have h := List.pairwise_mergeSort (le := leI) (fun a b c h1 h2 => by simp only [leI, decide_eq_true_eq] at *; omega) (fun a b => by simp only [leI, Bool.or_eq_true, decide_eq_true_eq]; omega) l
 exact h.imp (fun h => by simpa [leI] using h)
theorem sortZ_nodup {l : List Int} (h : l.Nodup) : (sortZ l).Nodup := (List.mergeSort_perm l leI).nodup_iff.2 h
theorem keys_permI {H : Type} {w : World} {R : Value → Option (DataW H × List MemPlace)} {b n : Nat} {D : DataW H} {ss : List Int} (ho : w.ownsMap Tryz.prog 3 R b n D) (hn : ss.Nodup) (hm : ∀ k : Int, Maps.has D (.int .i64 k) = decide (k ∈ ss)) : ss.Perm (intKeys D) :=
 CollectedI.perm (left := fun _ => false) ⟨hn, fun x => by simp [hm]⟩ ho keyedI Tryz.underlying3 (fun _ => rfl)
theorem sortedT_any {H : Type} (b nn : Nat) (D0 : DataW H) (R : Value → Option (DataW H × List MemPlace)) (w : World) (hown : w.ownsMap Tryz.prog 3 R b nn D0) (hmax : Maps.size D0 ≤ 1000000) :
  Calls Tryz.prog 75 #[.func (.func 137) #[] #[.pointer (some ⟨w.heap.size, 0, none⟩)]] (w.alloc (.cells #[.map (some b)] 120)) fun e w' => ∃ v, e = .returned v ∧ ZRow w' w.heap.size v (sortZ (intKeys D0)) ∧ Below w.heap.size (w.alloc (.cells #[.map (some b)] 120)) w' := by
 have hbl := hown.lt
 have hseq : SeqGives Fence.wide 2 Tryz.prog 137 #[.pointer (some ⟨w.heap.size, 0, none⟩)] encZ (fun ss => ss.Perm (intKeys D0)) (Maps.size D0) (w.alloc (.cells #[.map (some b)] 120)) :=
  AnyZI.keys_gives (ρ := keysT_ren) { keysT with } Fence.wide _ trivial rfl (by omega) w.heap.size b nn D0 _ (by simp) (by simp) (by
   obtain ⟨es, clock, hb, Ft, hs, hD⟩ := hown
   exact ⟨es, clock, (Below.heap_alloc _ _ b hbl).trans hb, Ft, hs, hD⟩)
 have h := (callsIn_wide (n := 5)).1 (AnyZI.sorted_in sortedT Fence.wide 5 trivial trivial trivial trivial rfl (by omega) (sortsZ _) (enters_of Tryz.func136 (by kernel_rfl) rfl) 137 #[.pointer (some ⟨w.heap.size, 0, none⟩)] trivial (enters_of Tryz.func137 (by kernel_rfl) rfl) _ _ (by unfold maxLen; omega) (by omega) _ hseq)
 refine h.mono ?_
 rintro e w' ⟨v, ss, rfl, hp, hrow, _, hb⟩
 refine ⟨v, rfl, ?_, hb.mono (by simp)⟩
 have hms : ss.mergeSort (fun x y => decide (x ≤ y)) = sortZ (intKeys D0) := mergeSort_of_perm_i hp
 rw [hms] at hrow
 have hl : ss.length = (sortZ (intKeys D0)).length := by rw [sortZ_len, hp.length_eq]
 rw [hl] at hrow
 exact ZRow.low (show ZRow w' _ v _ from hrow) (by simp)
theorem theights_any (base q m : Nat) (span : Int) (jp : Value) (T : List (Int × Tr)) (hTl : T.length ≤ 100000) (w : World) (hM : TrM w base m T) (B : Blk w q #[.map (some m), .int .i64 span, jp]) :
  Calls Tryz.prog 29 #[.pointer (some ⟨q, 0, none⟩)] w fun e w' => ∃ v, e = .returned v ∧ ZRow w' w.heap.size v (sortZ (hts T)) ∧ Below w.heap.size w w' := by
 obtain ⟨D, ho, hD⟩ := hM
 have hkb := keysT_any (some m)
 have hso := sortedT_any m _ D hT w ho (by rw [hD.size]; omega)
 rw [show sortZ (intKeys D) = sortZ (hts T) from (mergeSort_of_perm_i (keys_permI ho hD.nodup hD.has)).symm] at hso
 generalize sortZ (hts T) = L at *
 obtain ⟨b1, b2, b3⟩ := id B
 clear B ho hD
 go_enter Tryz.func29, Tryz.ntmps29
 go_wp2_with fail
 refine (hkb _).mono ?_
 rintro e w1 ⟨rfl, rfl⟩
 go_wp2_with fail
 refine hso.mono ?_
 rintro e w2 ⟨v, rfl, hr, hb⟩
 go_wp2_with fail
 go_ret
 exact ⟨v, rfl, hr, (Below.allocS (Below.refl _ _) _).trans hb⟩
end Go.Proofs.YthgjdaomcpinaaaGreatDoor
namespace Go.Proofs.YthgjdaomcpinaaaGreatDoor
open Go.RowKit Go.WideMaps Go.Maps Go.Sort Go.Shelf Pl
namespace Pl
def lookK (T : List (Int × Tr)) (k : Int) : Option Tr := (T.find? (fun e => e.1 == k)).map (·.2)
def firstT (T : List (Int × Tr)) (span now : Int) : List Int → Option Tr
 | [] => none
 | k :: r => match lookK T k with
  | none => firstT T span now r
  | some t => if staleT span now t = true then firstT T span now r else some t
def firstC (o : Option Tr) (l : List Int) : Int := match o with
 | some _ => 0
 | none => if l = [] then 5 else 330
end Pl
theorem lookK_in {T : List (Int × Tr)} (hn : (hts T).Nodup) {k : Int} {t : Tr} (h : (k, t) ∈ T) : lookK T k = some t := by
 induction T with
 | nil => cases h
 | cons x r ih =>
  unfold hts at hn
  rw [List.map_cons, List.nodup_cons] at hn
  unfold lookK
  rw [List.find?_cons]
  rcases List.mem_cons.1 h with e | e
  ·rw [← e]
   simp
  ·have hne : (x.1 == k) = false := by
    rw [beq_eq_false_iff_ne]
    intro e2
    exact hn.1 (List.mem_map.2 ⟨_, e, e2.symm⟩)
   rw [hne]
   exact ih hn.2 e
theorem firstT_stale {T : List (Int × Tr)} {span now k : Int} {r : List Int} {t : Tr} (h : lookK T k = some t) (hs : staleT span now t = true) : firstT T span now (k :: r) = firstT T span now r := by
 rw [firstT, h]
 simp only
 rw [if_pos hs]
theorem firstT_fresh {T : List (Int × Tr)} {span now k : Int} {r : List Int} {t : Tr} (h : lookK T k = some t) (hs : staleT span now t = false) : firstT T span now (k :: r) = some t := by
 rw [firstT, h]
 simp only
 rw [if_neg (by rw [hs]; decide)]
def TrSm (T : List (Int × Tr)) : Prop := ∀ e ∈ T, e.2.head.skips.length ≤ 1000000 ∧ e.2.set.length ≤ 1000000 ∧ -9223372036854775808 ≤ e.1 ∧ e.1 ≤ 9223372036854775807
theorem dropZ (l : List Int) (i : Nat) (hi : i < l.length) : l.drop i = l.getD i 0 :: l.drop (i + 1) := by
 rw [List.drop_eq_getElem_cons hi, List.getD_eq_getElem?_getD, List.getElem?_eq_getElem hi]
 rfl
theorem hts_mem {T : List (Int × Tr)} {k : Int} (h : k ∈ hts T) : ∃ t, (k, t) ∈ T := by
 obtain ⟨e, he, e1⟩ := List.mem_map.1 h
 exact ⟨e.2, by rw [← e1]; exact he⟩
def FV (w : World) (b : Nat) (v : Value) (o : Option Tr) : Prop := match o with
 | some t => TRow w b v t
 | none => v = nilT
theorem tfirst_any (base q m : Nat) (span : Int) (jp : Value) (T : List (Int × Tr)) (v : Value) (l : List Int) (now : Int) (hsm : TrSm T) (hl : ∀ k ∈ l, k ∈ hts T) (hn : -9223372036854775808 ≤ now ∧ now ≤ 9223372036854775807) (hs : 0 ≤ span ∧ span ≤ 1099511627776) (w : World) (hM : TrM w base m T) (B : Blk w q #[.map (some m), .int .i64 span, jp]) (hv : IS w v l) :
  Calls Tryz.prog 79 #[.pointer (some ⟨q, 0, none⟩), v, .int .i64 now] w fun e w' => ∃ v', e = .returned (.tuple #[v', .int .i64 (firstC (firstT T span now l) l)]) ∧ FV w' w.heap.size v' (firstT T span now l) ∧ Below w.heap.size w w' := by
 have Z0 : Blk (w.alloc (.cells ztA 27)) w.heap.size (List.toArray ztL) := Blk.new _ _ _
 have hb0 : Below w.heap.size w (w.alloc (.cells ztA 27)) := Below.allocS (Below.refl _ _) _
 obtain ⟨a, cap, rfl⟩ := hv.form
 have hlm := hv.small
 have HV := Lib.hid hv
 have HM := Lib.hid hM
 have HB := Lib.hid B
 have HL := Lib.hid hl
 have HSM := Lib.hid hsm
 clear hv hM B hl hsm
 go_enter Tryz.func79, Tryz.ntmps79
 go_wp2_with fail
 go_loopw [8, 15] (fun s8 s15 wr => ∃ (i : Nat) (c : Int), i ≤ l.length ∧ s15 = .int .i64 i ∧ s8 = .int .i64 c ∧ Hid (c = if i = 0 then 5 else 330) ∧ Hid (firstT T span now l = firstT T span now (l.drop i)) ∧ Blk wr w.heap.size (List.toArray ztL) ∧ Below w.heap.size w wr) (fun _ s15 _ => l.length - (intOf s15).toNat)
 case atStart => exact ⟨0, 5, by omega, rfl, rfl, Lib.hid rfl, Lib.hid (by rw [List.drop_zero]), Z0, hb0⟩
 case round =>
  clear Z0 hb0
  obtain ⟨i, c, hi, rfl, rfl, HCI, HF, Z, hb⟩ := hrel
  by_cases hlt : i < l.length
  ·have hbd : 0 ≤ (i : Int) ∧ (i : Int) < (l.length : Int) := by omega
   obtain ⟨g, off, e1, hg, c1⟩ := (HV.out.keep hb).at' i hlt
   subst e1
   have HDR := Lib.hid (dropZ l i hlt)
   have hkl : l.getD i 0 ∈ l := by rw [List.getD_eq_getElem?_getD, List.getElem?_eq_getElem hlt]; exact List.getElem_mem _
   have hk := HL.out _ hkl
   generalize l.getD i 0 = k at *
   obtain ⟨t, ht⟩ := hts_mem hk
   obtain ⟨l1, l2, l3, l4⟩ := HSM.out _ ht
   simp only at l1 l2 l3 l4
   have HLK := Lib.hid (lookK_in HM.out.nodup ht)
   have q1 := fun (W : World) (hb : Below w.heap.size w W) => tat_any base q m span jp T k now t ⟨l3, l4⟩ hn hs ht l1 l2 W (HM.out.keep hb) (HB.out.keep hb)
   clear hk hkl ht
   have HST1 := Lib.hid (fun h => firstT_stale (T := T) (span := span) (now := now) (r := l.drop (i + 1)) HLK.out h)
   have HST2 := Lib.hid (fun h => firstT_fresh (T := T) (span := span) (now := now) (r := l.drop (i + 1)) HLK.out h)
   generalize staleT span now t = st at *
   go_wp2_with fail
   refine (q1 _ hb).mono ?_
   rintro e w1 ⟨v1, rfl, hv1, hbx⟩
   have Z1 := Z.keep hbx
   have hb1 := hb.trans (hbx.mono hb.size)
   have hszb := hb.size
   have hzl := Z.lt
   have hszx := hbx.size
   clear q1 hbx hb Z
   cases st
   ·have hv1 : TRow w1 _ v1 t := hv1
    obtain ⟨⟨a1, a2, a3, lb, pa, sr, rc, tx, me, ne, K⟩, L, ta⟩ := t
    obtain ⟨sk, ms, rfl, r1, r2⟩ := hv1
    simp only at r1 r2
    obtain ⟨ka, kc, rfl⟩ := r1.form
    obtain ⟨ma, mc, rfl⟩ := r2.form
    have HR : Hid (firstT T span now l = some ⟨⟨a1, a2, a3, lb, pa, sr, rc, tx, me, ne, K⟩, L, ta⟩) := Lib.hid (by rw [HF.out, HDR.out]; exact HST2.out rfl)
    clear HF HDR HST1 HST2 HLK
    go_wp2_with (first | (refine wpList_rowStore row_trust rfl rfl (.tmp 11) (.tmp 24) rfl rfl rfl (vs := [.int .i64 a1, .int .i64 a2, .int .i64 a3, .bool lb, .string ⟨List.toArray pa⟩, .string ⟨List.toArray sr⟩, .string ⟨List.toArray rc⟩, .string ⟨List.toArray tx⟩, .string ⟨List.toArray me⟩, .string ⟨List.toArray ne⟩, .slice ka K.length kc, .slice ma L.length mc, .int .i64 ta]) rfl (by simp [Value.oneCell']) (us := ztL) rfl (Blk.new' (by simp)) ?_; intro w2 N2 m2; have hbn := Below.mod (Below.allocS (Below.refl w1.heap.size w1) (.cells ztA 27)) m2 (by simp) (by simp); have Z2 := Z1.keep hbn; have hb2 := hb1.trans (hbn.mono hb1.size); have y1 := r1.keep hbn; have y2 := r2.keep hbn) | (refine wpList_rowLoad row_trust rfl (.tmp 11) rfl rfl (vs := [.int .i64 a1, .int .i64 a2, .int .i64 a3, .bool lb, .string ⟨List.toArray pa⟩, .string ⟨List.toArray sr⟩, .string ⟨List.toArray rc⟩, .string ⟨List.toArray tx⟩, .string ⟨List.toArray me⟩, .string ⟨List.toArray ne⟩, .slice ka K.length kc, .slice ma L.length mc, .int .i64 ta]) rfl N2 ?_) | (refine wpList_rowStore row_trust rfl rfl (.tmp 6) (.tmp 28) rfl rfl rfl (vs := [.int .i64 a1, .int .i64 a2, .int .i64 a3, .bool lb, .string ⟨List.toArray pa⟩, .string ⟨List.toArray sr⟩, .string ⟨List.toArray rc⟩, .string ⟨List.toArray tx⟩, .string ⟨List.toArray me⟩, .string ⟨List.toArray ne⟩, .slice ka K.length kc, .slice ma L.length mc, .int .i64 ta]) rfl (by simp [Value.oneCell']) (us := ztL) rfl Z2 ?_; intro w5 N5 m5))
    have hld := row_loadVar row_trust w5 (vs := [.int .i64 a1, .int .i64 a2, .int .i64 a3, .bool lb, .string ⟨List.toArray pa⟩, .string ⟨List.toArray sr⟩, .string ⟨List.toArray rc⟩, .string ⟨List.toArray tx⟩, .string ⟨List.toArray me⟩, .string ⟨List.toArray ne⟩, .slice ka K.length kc, .slice ma L.length mc, .int .i64 ta]) rfl N5
    refine bodyPost_ret (results_cell_tmp2 rfl _ _ _ _ rfl hld) rfl ?_
    rw [HR.out]
    exact ⟨_, rfl, show TRow _ _ _ _ from ⟨_, _, rfl, SRow.low (y1.mod m5 hzl) (by omega), MRow.low (y2.mod m5 hzl) (by omega)⟩, Below.mod hb2 m5 hb2.size (by simp)⟩
   ·have hv1 : v1 = nilT := hv1
    subst hv1
    have HR : Hid (firstT T span now l = firstT T span now (l.drop (i + 1))) := Lib.hid (by rw [HF.out, HDR.out]; exact HST1.out rfl)
    clear HF HDR HST1 HST2 HLK
    go_wp2_with (first | (refine wpList_rowStore row_trust rfl rfl (.tmp 11) (.tmp 24) rfl rfl rfl (vs := [.int .i64 0, .int .i64 0, .int .i64 0, .bool false, .string ⟨List.toArray []⟩, .string ⟨List.toArray []⟩, .string ⟨List.toArray []⟩, .string ⟨List.toArray []⟩, .string ⟨List.toArray []⟩, .string ⟨List.toArray []⟩, .slice none 0 0, .slice none 0 0, .int .i64 0]) rfl (by simp [Value.oneCell']) (us := ztL) rfl (Blk.new' (by simp)) ?_; intro w2 N2 m2; have hbn := Below.mod (Below.allocS (Below.refl w1.heap.size w1) (.cells ztA 27)) m2 (by simp) (by simp)))
    exact ⟨⟨i + 1, 330, by omega, by go_num, rfl, Lib.hid (by rw [if_neg (by omega)]), HR, Z1.keep hbn, hb1.trans (hbn.mono hb1.size)⟩, by simp [intOf]; omega⟩
  ·have hil : i = l.length := by omega
   subst hil
   have HR : Hid (firstT T span now l = none) := Lib.hid (by rw [HF.out, List.drop_length]; rfl)
   have HC : Hid (firstC none l = if l.length = 0 then 5 else 330) := Lib.hid (by cases l <;> rfl)
   clear HF
   go_wp2_with (first | (refine wpList_rowStore row_trust rfl rfl (.tmp 6) (.tmp 32) rfl rfl rfl (vs := [.int .i64 0, .int .i64 0, .int .i64 0, .bool false, .string ⟨List.toArray []⟩, .string ⟨List.toArray []⟩, .string ⟨List.toArray []⟩, .string ⟨List.toArray []⟩, .string ⟨List.toArray []⟩, .string ⟨List.toArray []⟩, .slice none 0 0, .slice none 0 0, .int .i64 0]) rfl (by simp [Value.oneCell']) (us := ztL) rfl Z ?_; intro w5 N5 m5))
   have hld := row_loadVar row_trust w5 (vs := [.int .i64 0, .int .i64 0, .int .i64 0, .bool false, .string ⟨List.toArray []⟩, .string ⟨List.toArray []⟩, .string ⟨List.toArray []⟩, .string ⟨List.toArray []⟩, .string ⟨List.toArray []⟩, .string ⟨List.toArray []⟩, .slice none 0 0, .slice none 0 0, .int .i64 0]) rfl N5
   refine bodyPost_ret (results_cell_tmp2 rfl _ _ _ _ rfl hld) rfl ?_
   rw [HR.out, HC.out, ← HCI.out]
   refine ⟨nilT, rfl, ?_, Below.mod hb m5 hb.size (by simp)⟩
   rfl
end Go.Proofs.YthgjdaomcpinaaaGreatDoor
namespace Go.Proofs.YthgjdaomcpinaaaGreatDoor
open Go.Shelf
def laysRev_ren : Go.Shelf.Ren := ⟨fun | 112 => 77 | n => n, fun | 28 => 51 | 3 => 3 | 4 => 4 | 0 => 0 | n => n, fun | n => n⟩
theorem laysRev : Go.Proofs.Lays.n112 Tryz.prog laysRev_ren := {
 mixed := by kernel_rfl
 f112 := Tryz.func77.trans (congrArg some (by kernel_rfl))
 t0 := Tryz.underlying0
 a0 := Tryz.isAgg0
 z0 := Tryz.sizeOf0
 v0 := Tryz.zeroValue0
 t3 := Tryz.underlying3
 a3 := Tryz.isAgg3
 z3 := Tryz.sizeOf3
 v3 := Tryz.zeroValue3
 t4 := Tryz.underlying4
 a4 := Tryz.isAgg4
 z4 := Tryz.sizeOf4
 v4 := Tryz.zeroValue4
 t28 := Tryz.underlying51
 a28 := Tryz.isAgg51
 z28 := Tryz.sizeOf51
 v28 := Tryz.zeroValue51 }
end Go.Proofs.YthgjdaomcpinaaaGreatDoor
namespace Go.Proofs.YthgjdaomcpinaaaGreatDoor
open Go.Shelf
def laysBin_ren : Go.Shelf.Ren := ⟨fun | 25 => 80 | 31 => 138 | 32 => 139 | 37 => 165 | n => n, fun | 22 => 51 | 3 => 3 | 4 => 4 | 40 => 170 | 0 => 0 | n => n, fun | n => n⟩
theorem laysBin : Go.Proofs.Lays2.n25 Tryz.prog laysBin_ren := {
 mixed := by kernel_rfl
 f25 := Tryz.func80.trans (congrArg some (by kernel_rfl))
 f31 := Tryz.func138.trans (congrArg some (by kernel_rfl))
 f32 := Tryz.func139.trans (congrArg some (by kernel_rfl))
 f37 := Tryz.func165.trans (congrArg some (by kernel_rfl))
 t0 := Tryz.underlying0
 a0 := Tryz.isAgg0
 z0 := Tryz.sizeOf0
 v0 := Tryz.zeroValue0
 t3 := Tryz.underlying3
 a3 := Tryz.isAgg3
 z3 := Tryz.sizeOf3
 v3 := Tryz.zeroValue3
 t4 := Tryz.underlying4
 a4 := Tryz.isAgg4
 z4 := Tryz.sizeOf4
 v4 := Tryz.zeroValue4
 t22 := Tryz.underlying51
 a22 := Tryz.isAgg51
 z22 := Tryz.sizeOf51
 v22 := Tryz.zeroValue51
 t40 := Tryz.underlying170
 a40 := Tryz.isAgg170
 z40 := Tryz.sizeOf170
 v40 := Tryz.zeroValue170 }
end Go.Proofs.YthgjdaomcpinaaaGreatDoor
