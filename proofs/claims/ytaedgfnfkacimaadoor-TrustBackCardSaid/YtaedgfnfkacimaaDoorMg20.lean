/- TAt, TList, TAdd, TAddW. -/
import Derived.Test.YtaedgfnfkacimaaDoorMg19
set_option linter.unnecessarySimpa false

/- trust.Store.At of a height that is there. The program's walk. -/
set_option linter.unusedSimpArgs false
set_option linter.unusedVariables false
namespace Go.Proofs.YtaedgfnfkacimaaDoor
open Go.RowKit Go.WideMaps Go.Maps Go.Sort Go.Shelf Pl

namespace Pl
def staleT (span now : Int) (t : Tr) : Bool := decide (0 ≤ now) && decide (t.at_ ≤ now - span)
end Pl
set_option maxRecDepth 100000 in
set_option maxHeartbeats 4000000 in
theorem tat_any (base q m : Nat) (span : Int) (jp : Value) (T : List (Int × Tr)) (k now : Int) (t : Tr) (hk : -9223372036854775808 ≤ k ∧ k ≤ 9223372036854775807) (hn : -9223372036854775808 ≤ now ∧ now ≤ 9223372036854775807) (hs : 0 ≤ span ∧ span ≤ 1099511627776) (hin : (k, t) ∈ T) (l1 : t.head.skips.length ≤ 1000000) (l2 : t.set.length ≤ 1000000) (w : World) (hM : TrM w base m T) (B : Blk w q #[.map (some m), .int .i64 (span), jp]) :
    Calls Tryd.prog 15 #[.pointer (some ⟨q, 0, none⟩), .int .i64 (k), .int .i64 (now)] w fun e w' => ∃ v, e = .returned (.tuple #[v, .int .i64 (if staleT span now t then 330 else 0)]) ∧ (if staleT span now t = true then v = nilT else TRow w' w.heap.size v t) ∧ Below w.heap.size w w' := by
  have Z0 : Blk (w.alloc (.cells #[.int .i64 (0), .int .i64 (0), .int .i64 (0), .bool false, .string ⟨List.toArray ([])⟩, .string ⟨List.toArray ([])⟩, .string ⟨List.toArray ([])⟩, .string ⟨List.toArray ([])⟩, .string ⟨List.toArray ([])⟩, .string ⟨List.toArray ([])⟩, .slice none 0 0, .slice none 0 0, .int .i64 (0)] 27)) w.heap.size (List.toArray [.int .i64 (0), .int .i64 (0), .int .i64 (0), .bool false, .string ⟨List.toArray ([])⟩, .string ⟨List.toArray ([])⟩, .string ⟨List.toArray ([])⟩, .string ⟨List.toArray ([])⟩, .string ⟨List.toArray ([])⟩, .string ⟨List.toArray ([])⟩, .slice none 0 0, .slice none 0 0, .int .i64 (0)]) := Blk.new _ _ _
  have hb0 : Below w.heap.size w (w.alloc (.cells #[.int .i64 (0), .int .i64 (0), .int .i64 (0), .bool false, .string ⟨List.toArray ([])⟩, .string ⟨List.toArray ([])⟩, .string ⟨List.toArray ([])⟩, .string ⟨List.toArray ([])⟩, .string ⟨List.toArray ([])⟩, .string ⟨List.toArray ([])⟩, .slice none 0 0, .slice none 0 0, .int .i64 (0)] 27)) := Below.allocS (Below.refl _ _) _
  obtain ⟨v, hrun, hv, _⟩ := (hM.keep hb0).look k hk
  have hv := hv t hin
  have hmem : decide (k ∈ hts T) = true := decide_eq_true (List.mem_map.2 ⟨(k, t), hin, rfl⟩)
  rw [hmem] at hrun
  have q1 := fun (v : Value) (W : World) (B : Blk W q #[.map (some m), .int .i64 (span), jp]) (hv : TV W v t) => tr_stale q (.map (some m)) span jp v t now hs hn W B hv
  rw [show (decide (0 ≤ now) && decide (t.at_ ≤ now - span)) = staleT span now t from rfl] at q1
  generalize staleT span now t = st at *
  obtain ⟨⟨a1, a2, a3, lb, pa, sr, rc, tx, me, ne, K⟩, L, ta⟩ := t
  obtain ⟨sk, ms, rfl, h1, h2⟩ := hv
  simp only at h1 h2 l1 l2 q1 hrun
  have h1p := h1.plain
  have h2p := h2.plain
  have q2 := fun (W : World) (h1 : SS W sk K) (h2 : MS W ms L) => tr_own a1 a2 a3 lb pa sr rc tx me ne K L ta sk ms W h1 h2 h1p h2p l1 l2
  obtain ⟨ka, kc, rfl⟩ := h1.form
  obtain ⟨ma, mc, rfl⟩ := h2.form
  have B1 := B.keep hb0
  obtain ⟨b1, b2, b3⟩ := id B
  have B0 := B
  clear hM B hmem hin
  go_enter Tryd.func15, Tryd.ntmps15
  go_wp2_with (first | (refine wpList_rowStore row_trust rfl rfl (.tmp 8) (.tmp 17) rfl rfl rfl (vs := [.int .i64 (a1), .int .i64 (a2), .int .i64 (a3), .bool lb, .string ⟨List.toArray (pa)⟩, .string ⟨List.toArray (sr)⟩, .string ⟨List.toArray (rc)⟩, .string ⟨List.toArray (tx)⟩, .string ⟨List.toArray (me)⟩, .string ⟨List.toArray (ne)⟩, .slice ka K.length kc, .slice ma L.length mc, .int .i64 (ta)]) rfl (by simp [Value.oneCell']) (us := [.int .i64 (0), .int .i64 (0), .int .i64 (0), .bool false, .string ⟨List.toArray ([])⟩, .string ⟨List.toArray ([])⟩, .string ⟨List.toArray ([])⟩, .string ⟨List.toArray ([])⟩, .string ⟨List.toArray ([])⟩, .string ⟨List.toArray ([])⟩, .slice none 0 0, .slice none 0 0, .int .i64 (0)]) rfl (Blk.new' (by simp)) ?_; intro w2 N2 m2) | (refine wpList_rowLoad row_trust rfl (.tmp 8) rfl rfl (vs := [.int .i64 (a1), .int .i64 (a2), .int .i64 (a3), .bool lb, .string ⟨List.toArray (pa)⟩, .string ⟨List.toArray (sr)⟩, .string ⟨List.toArray (rc)⟩, .string ⟨List.toArray (tx)⟩, .string ⟨List.toArray (me)⟩, .string ⟨List.toArray (ne)⟩, .slice ka K.length kc, .slice ma L.length mc, .int .i64 (ta)]) rfl N2 ?_))
  have hb1 := Below.allocS hb0 (.cells #[.int .i64 (0), .int .i64 (0), .int .i64 (0), .bool false, .string ⟨List.toArray ([])⟩, .string ⟨List.toArray ([])⟩, .string ⟨List.toArray ([])⟩, .string ⟨List.toArray ([])⟩, .string ⟨List.toArray ([])⟩, .string ⟨List.toArray ([])⟩, .slice none 0 0, .slice none 0 0, .int .i64 (0)] 27)
  have hb2 := Below.mod hb1 m2 hb1.size (by simp)
  have hsz2 : w.heap.size + 2 ≤ w2.heap.size := by have := m2.size; simpa using this
  have B2 := B0.keep hb2
  have Z2 := (Z0.alloc (.cells #[.int .i64 (0), .int .i64 (0), .int .i64 (0), .bool false, .string ⟨List.toArray ([])⟩, .string ⟨List.toArray ([])⟩, .string ⟨List.toArray ([])⟩, .string ⟨List.toArray ([])⟩, .string ⟨List.toArray ([])⟩, .string ⟨List.toArray ([])⟩, .slice none 0 0, .slice none 0 0, .int .i64 (0)] 27)).mod m2 (by simp)
  have hbx : Below (w.alloc (.cells #[.int .i64 (0), .int .i64 (0), .int .i64 (0), .bool false, .string ⟨List.toArray ([])⟩, .string ⟨List.toArray ([])⟩, .string ⟨List.toArray ([])⟩, .string ⟨List.toArray ([])⟩, .string ⟨List.toArray ([])⟩, .string ⟨List.toArray ([])⟩, .slice none 0 0, .slice none 0 0, .int .i64 (0)] 27)).heap.size (w.alloc (.cells #[.int .i64 (0), .int .i64 (0), .int .i64 (0), .bool false, .string ⟨List.toArray ([])⟩, .string ⟨List.toArray ([])⟩, .string ⟨List.toArray ([])⟩, .string ⟨List.toArray ([])⟩, .string ⟨List.toArray ([])⟩, .string ⟨List.toArray ([])⟩, .slice none 0 0, .slice none 0 0, .int .i64 (0)] 27)) w2 := Below.mod (Below.allocS (Below.refl _ _) _) m2 (by simp) (by simp)
  have g1 := h1.keep hbx
  have g2 := h2.keep hbx
  have q1 := q1 (.agg #[.int .i64 (a1), .int .i64 (a2), .int .i64 (a3), .bool lb, .string ⟨List.toArray (pa)⟩, .string ⟨List.toArray (sr)⟩, .string ⟨List.toArray (rc)⟩, .string ⟨List.toArray (tx)⟩, .string ⟨List.toArray (me)⟩, .string ⟨List.toArray (ne)⟩, .slice ka K.length kc, .slice ma L.length mc, .int .i64 (ta)]) w2 B2 ⟨_, _, rfl, g1.ss, g2.ms⟩
  clear Z0 hb0 B1 b1 b2 b3 h1 h2 hrun hb1
  refine q1.mono ?_
  rintro e w3 ⟨rfl, hb⟩
  have hb3 := hb2.trans (hb.mono hb2.size)
  have hs3 := hb.size
  have Z3 := Z2.keep hb
  have N3 := N2.keep hb
  have g3 := g1.keep hb
  have g4 := g2.keep hb
  clear q1 hb Z2 N2 g1 g2 B2 hb2 hbx
  cases st
  · have q2 := q2 w3 g3.ss g4.ms
    go_wp2_with (first | (refine wpList_rowLoadG row_trust ?hw (.tmp 8) rfl rfl (vs := [.int .i64 (a1), .int .i64 (a2), .int .i64 (a3), .bool lb, .string ⟨List.toArray (pa)⟩, .string ⟨List.toArray (sr)⟩, .string ⟨List.toArray (rc)⟩, .string ⟨List.toArray (tx)⟩, .string ⟨List.toArray (me)⟩, .string ⟨List.toArray (ne)⟩, .slice ka K.length kc, .slice ma L.length mc, .int .i64 (ta)]) rfl N3 ?_; (case hw => rfl)))
    refine q2.mono ?_
    rintro e w4 ⟨_, rfl, ⟨sk2, ms2, rfl, r1, r2⟩, hb⟩
    have r1 : SRow w4 w3.heap.size sk2 K := r1
    have r2 : MRow w4 w3.heap.size ms2 L := r2
    obtain ⟨xa, xc, rfl⟩ := r1.form
    obtain ⟨ya, yc, rfl⟩ := r2.form
    have Z4 := Z3.keep hb
    have hb4 := hb3.trans (hb.mono hb3.size)
    clear q2 hb Z3 N3 g3 g4 hb3
    go_wp2_with (first | (refine wpList_rowStore row_trust rfl rfl (.tmp 6) (.tmp 30) rfl rfl rfl (vs := [.int .i64 (a1), .int .i64 (a2), .int .i64 (a3), .bool lb, .string ⟨List.toArray (pa)⟩, .string ⟨List.toArray (sr)⟩, .string ⟨List.toArray (rc)⟩, .string ⟨List.toArray (tx)⟩, .string ⟨List.toArray (me)⟩, .string ⟨List.toArray (ne)⟩, .slice xa K.length xc, .slice ya L.length yc, .int .i64 (ta)]) rfl (by simp [Value.oneCell']) (us := [.int .i64 (0), .int .i64 (0), .int .i64 (0), .bool false, .string ⟨List.toArray ([])⟩, .string ⟨List.toArray ([])⟩, .string ⟨List.toArray ([])⟩, .string ⟨List.toArray ([])⟩, .string ⟨List.toArray ([])⟩, .string ⟨List.toArray ([])⟩, .slice none 0 0, .slice none 0 0, .int .i64 (0)]) rfl Z4 ?_; intro w5 N5 m5))
    have hld := row_loadVar row_trust w5 (vs := [.int .i64 (a1), .int .i64 (a2), .int .i64 (a3), .bool lb, .string ⟨List.toArray (pa)⟩, .string ⟨List.toArray (sr)⟩, .string ⟨List.toArray (rc)⟩, .string ⟨List.toArray (tx)⟩, .string ⟨List.toArray (me)⟩, .string ⟨List.toArray (ne)⟩, .slice xa K.length xc, .slice ya L.length yc, .int .i64 (ta)]) rfl N5
    refine bodyPost_ret (results_cell_tmp2 rfl _ _ _ _ rfl hld) rfl ?_
    exact ⟨_, rfl, ⟨_, _, rfl, SRow.low (r1.mod m5 (by omega)) (by omega), MRow.low (r2.mod m5 (by omega)) (by omega)⟩, Below.mod hb4 m5 hb4.size (by simp)⟩
  · go_wp2_with (first | (refine wpList_rowStore row_trust rfl rfl (.tmp 6) (.tmp 28) rfl rfl rfl (vs := [.int .i64 (0), .int .i64 (0), .int .i64 (0), .bool false, .string ⟨List.toArray ([])⟩, .string ⟨List.toArray ([])⟩, .string ⟨List.toArray ([])⟩, .string ⟨List.toArray ([])⟩, .string ⟨List.toArray ([])⟩, .string ⟨List.toArray ([])⟩, .slice none 0 0, .slice none 0 0, .int .i64 (0)]) rfl (by simp [Value.oneCell']) (us := [.int .i64 (0), .int .i64 (0), .int .i64 (0), .bool false, .string ⟨List.toArray ([])⟩, .string ⟨List.toArray ([])⟩, .string ⟨List.toArray ([])⟩, .string ⟨List.toArray ([])⟩, .string ⟨List.toArray ([])⟩, .string ⟨List.toArray ([])⟩, .slice none 0 0, .slice none 0 0, .int .i64 (0)]) rfl Z3 ?_; intro w5 N5 m5))
    have hld := row_loadVar row_trust w5 (vs := [.int .i64 (0), .int .i64 (0), .int .i64 (0), .bool false, .string ⟨List.toArray ([])⟩, .string ⟨List.toArray ([])⟩, .string ⟨List.toArray ([])⟩, .string ⟨List.toArray ([])⟩, .string ⟨List.toArray ([])⟩, .string ⟨List.toArray ([])⟩, .slice none 0 0, .slice none 0 0, .int .i64 (0)]) rfl N5
    refine bodyPost_ret (results_cell_tmp2 rfl _ _ _ _ rfl hld) rfl ?_
    have hlast := Below.mod hb3 m5 hb3.size (by simp)
    first | exact ⟨_, rfl, rfl, hlast⟩ | exact ⟨_, rfl, hlast⟩ | exact ⟨⟨_, rfl⟩, hlast⟩ | (refine ⟨?_, hlast⟩; exact ⟨_, rfl⟩) | (simp; exact hlast) | simpa using hlast
end Go.Proofs.YtaedgfnfkacimaaDoor

/- Lists of those that are trusted, to be read; one comes into the store's map, or takes another's place. -/
set_option linter.unusedSimpArgs false
set_option linter.unusedVariables false
namespace Go.Proofs.YtaedgfnfkacimaaDoor
open Go.RowKit Go.WideMaps Go.Maps Go.Sort Go.Shelf Pl

namespace Pl
/-- One comes, or takes another's place. -/
def putK (T : List (Int × Tr)) (k : Int) (t : Tr) : List (Int × Tr) := if k ∈ T.map (·.1) then T.map (fun e => if e.1 = k then (k, t) else e) else T ++ [(k, t)]
end Pl
theorem putK_new {T : List (Int × Tr)} {k : Int} {t : Tr} (h : k ∉ hts T) : putK T k t = T ++ [(k, t)] := if_neg h
theorem putK_again {T : List (Int × Tr)} {k : Int} {t : Tr} (h : k ∈ hts T) : putK T k t = T.map (fun e => if e.1 = k then (k, t) else e) := if_pos h
theorem hts_map (T : List (Int × Tr)) (k : Int) (t : Tr) : hts (T.map (fun e => if e.1 = k then (k, t) else e)) = hts T := by
  unfold hts
  rw [List.map_map]
  apply List.map_congr_left
  intro e _
  simp only [Function.comp]
  split
  · rename_i h; exact h.symm
  · rfl
theorem ownsMap_tight {H : Type} {R : Value → Option (DataW H × List MemPlace)} {w : World} {t : TypeId} {b n : Nat} {D : DataW H} (h : w.ownsMap Tryd.prog t R b n D) : w.ownsMap Tryd.prog t R b (Maps.size D) D := by
  obtain ⟨es, clock, hb, F, hs, rfl⟩ := h
  exact ⟨es, clock, hb, F, by simp [Maps.size, length_sorted], rfl⟩
theorem TrD.again {w : World} {base : Nat} {T : List (Int × Tr)} {D : DataW Value} (h : TrD w base D T) (hD : Tidy D) (k : Int) (t : Tr) (v : Value) (hn : k ∈ hts T) (hv : TRow w base v t) : TrD w base (D.put (.int .i64 k) (.held v)) (T.map (fun e => if e.1 = k then (k, t) else e)) := by
  refine ⟨fun k' => ?_, fun e he => ?_, ?_, ?_⟩
  · rw [hts_map]
    by_cases e : k' = k
    · subst e
      rw [has_put_same hD.isMap (isKeyI k')]
      simp [hn]
    · rw [has_put_other (by intro h; injection h with _ h; exact e h), h.has]
  · obtain ⟨x, hx, rfl⟩ := List.mem_map.1 he
    by_cases hxk : x.1 = k
    · simp only [hxk, if_true]
      exact ⟨v, atKey_put_same hD.isMap (isKeyI k) _ _, hv⟩
    · simp only [hxk, if_false]
      obtain ⟨u, h1, h2⟩ := h.val x hx
      exact ⟨u, by rw [atKey_put_other (by intro h; injection h with _ h; exact hxk h)]; exact h1, h2⟩
  · rw [hts_map]
    exact h.nodup
  · rw [size_put hD, h.has, if_pos (by simpa using hn), h.size, List.length_map]
theorem SRow.notmap {w : World} {base m g : Nat} {v : Value} {l : List Bs} {es : Array MapEntry} {c : Nat} (h : SRow w base v l) (hm : w.heap[m]? = some (.map es c)) (hk : v.ownBlock = some g) : g ≠ m := by
  intro e
  subst e
  rcases h.2 with ⟨rfl, _⟩ | ⟨g', cap, cur, rfl, h1, h2, _⟩
  · cases hk
  · cases hk
    rw [hm] at h2
    cases h2
theorem MRow.notmap {w : World} {base m g : Nat} {v : Value} {l : List (Bs × Int)} {es : Array MapEntry} {c : Nat} (h : MRow w base v l) (hm : w.heap[m]? = some (.map es c)) (hk : v.ownBlock = some g) : g ≠ m := by
  intro e
  subst e
  rcases h.2 with ⟨rfl, _⟩ | ⟨g', cap, cur, rfl, h1, h2, _⟩
  · cases hk
  · cases hk
    rw [hm] at h2
    cases h2
theorem ownsMap_block {H : Type} {R : Value → Option (DataW H × List MemPlace)} {w : World} {t : TypeId} {b n : Nat} {D : DataW H} (h : w.ownsMap Tryd.prog t R b n D) : ∃ es c, w.heap[b]? = some (.map es c) := by
  obtain ⟨es, c, h1, _⟩ := h
  exact ⟨es, c, h1⟩
theorem SRow.grown {w w' : World} {base m : Nat} {v : Value} {l : List Bs} {es : Array MapEntry} {c : Nat} (h : SRow w base v l) (hm : w.heap[m]? = some (.map es c)) (hg : w.grownBy w' (some m)) : SRow w' base v l :=
  h.kept (fun k hk => hg.block k (by
    rcases h.cells with ⟨rfl, _⟩ | ⟨g, cap, rfl, _, h2, _⟩
    · cases hk
    · cases hk; exact h2) (by intro e; injection e with e; exact h.notmap hm hk e))
theorem MRow.grown {w w' : World} {base m : Nat} {v : Value} {l : List (Bs × Int)} {es : Array MapEntry} {c : Nat} (h : MRow w base v l) (hm : w.heap[m]? = some (.map es c)) (hg : w.grownBy w' (some m)) : MRow w' base v l :=
  h.kept (fun k hk => hg.block k (by
    rcases h.cells with ⟨rfl, _⟩ | ⟨g, cap, rfl, _, h2, _⟩
    · cases hk
    · cases hk; exact h2) (by intro e; injection e with e; exact h.notmap hm hk e))
theorem TRow.grown {w w' : World} {base m : Nat} {v : Value} {t : Tr} {es : Array MapEntry} {c : Nat} (h : TRow w base v t) (hm : w.heap[m]? = some (.map es c)) (hg : w.grownBy w' (some m)) : TRow w' base v t := by
  obtain ⟨sk, ms, h1, h2, h3⟩ := h
  exact ⟨sk, ms, h1, h2.grown hm hg, h3.grown hm hg⟩
/-- m[k] = v. -/
theorem TrM.update {w : World} {base m : Nat} {T : List (Int × Tr)} (h : TrM w base m T) (hl : T.length < 1000000) (k : Int) (hk : -9223372036854775808 ≤ k ∧ k ≤ 9223372036854775807) (t : Tr) (v : Value) (hv : TRow w base v t) :
    ∃ w', (Instr.mapUpdate 75 (.map (some m)) (.int .i64 (k)) v).run Tryd.prog w = .ok () w' ∧ TrM w' base m (putK T k t) ∧ w.grownBy w' (some m) := by
  obtain ⟨D, ho, hD⟩ := h
  have htd := ho.tidy keyedI
  obtain ⟨es, c, hm⟩ := ownsMap_block ho
  obtain ⟨w', hrun, ho2, hg⟩ := ho.update keyedI Tryd.underlying75 (by unfold maxLen; omega) (keyI k hk) (show hT v = some (.held v, []) from rfl)
  refine ⟨w', hrun, ⟨D.put (.int .i64 k) (.held v), ?_, ?_⟩, hg⟩
  · have h2 := ownsMap_tight ho2
    rw [size_put htd, hD.has] at h2
    by_cases hin : k ∈ hts T
    · rw [if_pos (by simpa using hin), hD.size] at h2
      rw [putK_again hin, List.length_map]
      exact h2
    · rw [if_neg (by simpa using hin), hD.size] at h2
      rw [putK_new hin, List.length_append]
      exact h2
  · have hD2 : TrD w' base D T := ⟨hD.has, fun e he => (by obtain ⟨u, h1, h2⟩ := hD.val e he; exact ⟨u, h1, h2.grown hm hg⟩), hD.nodup, hD.size⟩
    by_cases hin : k ∈ hts T
    · rw [putK_again hin]
      exact hD2.again htd k t v hin (hv.grown hm hg)
    · rw [putK_new hin]
      exact hD2.new htd k t v hin (hv.grown hm hg)
theorem TrM.nodup {w : World} {base m : Nat} {T : List (Int × Tr)} (h : TrM w base m T) : (hts T).Nodup := by
  obtain ⟨D, _, hD⟩ := h
  exact hD.nodup
theorem TrM.block {w : World} {base m : Nat} {T : List (Int × Tr)} (h : TrM w base m T) : ∃ es c, w.heap[m]? = some (.map es c) := by
  obtain ⟨D, ho, _⟩ := h
  exact ownsMap_block ho
/-- The cells of one that is trusted. -/
def tcs (t : Tr) (sk ms : Value) : List Value := [.int .i64 (t.head.height), .int .i64 (t.head.epoch), .int .i64 (t.head.view), .bool t.head.last, .string ⟨List.toArray (t.head.parent)⟩, .string ⟨List.toArray (t.head.state)⟩, .string ⟨List.toArray (t.head.receipts)⟩, .string ⟨List.toArray (t.head.txs)⟩, .string ⟨List.toArray (t.head.members)⟩, .string ⟨List.toArray (t.head.next)⟩, sk, ms, .int .i64 (t.at_)]
/-- A list of those that are trusted, in a block. -/
def TSrc (w : World) (g o : Nat) (l : List Tr) : Prop := ∀ i t, l[i]? = some t → ∃ sk ms, w.rangeAt g (o + i * 13) (tcs t sk ms) ∧ SS w sk t.head.skips ∧ MS w ms t.set ∧ PlainS sk ∧ PlainS ms
def TL (w : World) (v : Value) (l : List Tr) : Prop :=
  ∃ a cap, v = .slice a l.length cap ∧ l.length ≤ cap ∧ cap ≤ maxLen ∧ (l ≠ [] → ∃ g off, a = some ⟨g, off, none⟩ ∧ g < w.heap.size ∧ TSrc w g off l)
theorem rangeAt_keep {W w : World} {b o : Nat} {cs : List Value} (h : W.rangeAt b o cs) (hlt : b < W.heap.size) (hb : Below W.heap.size W w) : w.rangeAt b o cs := by
  intro j v hj
  exact (hb.cell (p := ⟨b, o + j, none⟩) hlt).trans (h j v hj)
theorem TSrc.keep {W w : World} {g o : Nat} {l : List Tr} (h : TSrc W g o l) (hlt : g < W.heap.size) (hb : Below W.heap.size W w) : TSrc w g o l := by
  intro i t hi
  obtain ⟨sk, ms, h1, h2, h3, h4, h5⟩ := h i t hi
  exact ⟨sk, ms, rangeAt_keep h1 hlt hb, h2.keep hb, h3.keep hb, h4, h5⟩
theorem TL.keep {W w : World} {v : Value} {l : List Tr} (h : TL W v l) (hb : Below W.heap.size W w) : TL w v l := by
  obtain ⟨a, cap, h1, h2, h3, h4⟩ := h
  refine ⟨a, cap, h1, h2, h3, fun hn => ?_⟩
  obtain ⟨g, off, e, hg, hs⟩ := h4 hn
  exact ⟨g, off, e, Nat.lt_of_lt_of_le hg hb.size, hs.keep hg hb⟩
theorem TL.form {w : World} {v : Value} {l : List Tr} (h : TL w v l) : ∃ a c, v = .slice a l.length c := by
  obtain ⟨a, c, e, _⟩ := h
  exact ⟨a, c, e⟩
theorem TL.small {w : World} {v : Value} {l : List Tr} (h : TL w v l) : l.length ≤ 9223372036854775807 := by
  obtain ⟨a, c, e, h1, h2, _⟩ := h
  unfold maxLen at h2
  omega
theorem TL.at {w : World} {a : Option Addr} {c : Nat} {l : List Tr} (h : TL w (.slice a l.length c) l) (i : Nat) (t : Tr) (hi : l[i]? = some t) :
    ∃ g off sk ms, a = some ⟨g, off, none⟩ ∧ g < w.heap.size ∧ w.rangeAt g (off + i * 13) (tcs t sk ms) ∧ SS w sk t.head.skips ∧ MS w ms t.set ∧ PlainS sk ∧ PlainS ms := by
  obtain ⟨a', c', e, h1, h2, h4⟩ := h
  injection e with e _ _
  subst e
  obtain ⟨g, off, e, hg, hs⟩ := h4 (by intro e; subst e; simp at hi)
  obtain ⟨sk, ms, r⟩ := hs i t hi
  exact ⟨g, off, sk, ms, e, hg, r⟩
section
variable {P : Program} {T : TypeId} {n : Nat} {ops : Array Oper} {rest : List Oper} {op : Oper} {a : Act} {w : World} {Q : Exit → Act → World → Prop}
theorem wpList_rowLoadAt (hT : RowT P T n) (hgd : op.guard = none) (x : Operand) (ho : op.op = .load T x) {b o : Nat} (hx : a.eval x = .pointer (some ⟨b, o, none⟩)) {vs : List Value} (hl : vs.length = n) (hB : w.rangeAt b o vs)
    (h : wpList P ops Q rest (a.put op.dst (.agg vs.toArray)) w) : wpList P ops Q (op :: rest) a w := by
  obtain ⟨⟨d, h1, h2⟩, h3⟩ := hT
  exact wpList_load_mid hgd T x ho b o hx vs d hB h1 h2 (by rw [hl]; exact h3) h
end
end Go.Proofs.YtaedgfnfkacimaaDoor

/- trust.Store.Add: some are there. The program's walk. -/
set_option linter.unusedSimpArgs false
set_option linter.unusedVariables false
namespace Go.Proofs.YtaedgfnfkacimaaDoor
open Go.RowKit Go.WideMaps Go.Maps Go.Sort Go.Shelf Pl

namespace Pl
/-- The texts that tell what comes. -/
def batchT (l : List Tr) : List Bs := l.map (fun t => 1 :: writT t)
/-- Is another header there already? -/
def clashT (T : List (Int × Tr)) (t : Tr) : Bool := T.any (fun e => decide (e.1 = t.head.height) && !decide ((encHR e.2.head).1 = (encHR t.head).1))
/-- A map behind what comes; none: another header is there. -/
def addsT : List Tr → List (Int × Tr) → Option (List (Int × Tr))
  | [], T => some T
  | t :: r, T => if clashT T t = true then none else addsT r (putK T t.head.height t)
/-- What comes of Add. -/
def addD (d : Dk) (T : List (Int × Tr)) (l : List Tr) : Dk × List (Int × Tr) × Int × Bool :=
  if l.all fineT = false then (d, T, 3, false) else match addsT l T with
    | none => (d, T, 6, false)
    | some T' => if l = [] then (d, T', 0, false) else if (writeD d (batchT l)).2 = 0 then ((writeD d (batchT l)).1, T', 0, tornD (writeD d (batchT l)).2) else ((writeD d (batchT l)).1, T, (writeD d (batchT l)).2, tornD (writeD d (batchT l)).2)
end Pl
theorem addD_bad {d : Dk} {T : List (Int × Tr)} {l : List Tr} (h : l.all fineT = false) : addD d T l = (d, T, 3, false) := by
  unfold addD
  rw [if_pos h]
theorem addD_there {d : Dk} {T : List (Int × Tr)} {l : List Tr} (h : l.all fineT = true) (h2 : addsT l T = none) : addD d T l = (d, T, 6, false) := by
  unfold addD
  rw [if_neg (by simp [h]), h2]
theorem addD_none {d : Dk} {T T' : List (Int × Tr)} (h2 : addsT [] T = some T') : addD d T [] = (d, T', 0, false) := by
  unfold addD
  rw [if_neg (by simp), h2]
  simp
theorem addD_yes {d : Dk} {T T' : List (Int × Tr)} {l : List Tr} (h : l.all fineT = true) (h2 : addsT l T = some T') (hn : l ≠ []) (h3 : (writeD d (batchT l)).2 = 0) : addD d T l = ((writeD d (batchT l)).1, T', 0, tornD (writeD d (batchT l)).2) := by
  unfold addD
  rw [if_neg (by simp [h]), h2]
  simp only
  rw [if_neg hn, if_pos h3]
theorem addD_no {d : Dk} {T T' : List (Int × Tr)} {l : List Tr} (h : l.all fineT = true) (h2 : addsT l T = some T') (hn : l ≠ []) (h3 : (writeD d (batchT l)).2 ≠ 0) : addD d T l = ((writeD d (batchT l)).1, T, (writeD d (batchT l)).2, tornD (writeD d (batchT l)).2) := by
  unfold addD
  rw [if_neg (by simp [h]), h2]
  simp only
  rw [if_neg hn, if_neg h3]
theorem clashT_new {T : List (Int × Tr)} {t : Tr} (h : t.head.height ∉ hts T) : clashT T t = false := by
  unfold clashT
  rw [List.any_eq_false]
  intro e he
  have : e.1 ≠ t.head.height := fun h2 => h (h2 ▸ List.mem_map.2 ⟨e, he, rfl⟩)
  simp [this]
theorem hts_one {T : List (Int × Tr)} (hn : (hts T).Nodup) {k : Int} {a b : Tr} (h1 : (k, a) ∈ T) (h2 : (k, b) ∈ T) : a = b := by
  induction T with
  | nil => cases h1
  | cons x r ih =>
    unfold hts at hn ih
    rw [List.map_cons, List.nodup_cons] at hn
    rcases List.mem_cons.1 h1 with e1 | e1 <;> rcases List.mem_cons.1 h2 with e2 | e2
    · rw [← e1] at e2
      injection e2 with _ e2
      exact e2.symm
    · exact absurd (List.mem_map.2 ⟨_, e2, by rw [← e1]⟩) hn.1
    · exact absurd (List.mem_map.2 ⟨_, e1, by rw [← e2]⟩) hn.1
    · exact ih hn.2 e1 e2
theorem clashT_there {T : List (Int × Tr)} {t o : Tr} (hn : (hts T).Nodup) (h : (t.head.height, o) ∈ T) : clashT T t = !decide ((encHR o.head).1 = (encHR t.head).1) := by
  cases hd : decide ((encHR o.head).1 = (encHR t.head).1)
  · unfold clashT
    rw [Bool.not_false, List.any_eq_true]
    exact ⟨_, h, by simp [hd]⟩
  · unfold clashT
    rw [Bool.not_true, List.any_eq_false]
    intro e he
    by_cases hk : e.1 = t.head.height
    · have := hts_one hn h (b := e.2) (by rw [← hk]; exact he)
      subst this
      simp [hd]
    · simp [hk]
theorem addsT_clash {T : List (Int × Tr)} {t : Tr} {r : List Tr} (h : clashT T t = true) : addsT (t :: r) T = none := by
  unfold addsT
  rw [if_pos h]
theorem addsT_step {T : List (Int × Tr)} {t : Tr} {r : List Tr} (h : clashT T t = false) : addsT (t :: r) T = addsT r (putK T t.head.height t) := by
  rw [addsT, if_neg (by simp [h])]
theorem putK_len (T : List (Int × Tr)) (k : Int) (t : Tr) : (putK T k t).length ≤ T.length + 1 := by
  unfold putK
  split <;> simp
theorem dropT (l : List Tr) (i : Nat) (t : Tr) (h : l[i]? = some t) : l.drop i = t :: l.drop (i + 1) := by
  obtain ⟨hi, e⟩ := List.getElem?_eq_some_iff.1 h
  rw [List.drop_eq_getElem_cons hi, e]
theorem batch_snoc (l : List Tr) (i : Nat) (t : Tr) (h : l[i]? = some t) : batchT (l.take (i + 1)) = batchT (l.take i) ++ [1 :: writT t] := by
  obtain ⟨hi, e⟩ := List.getElem?_eq_some_iff.1 h
  unfold batchT
  rw [List.take_succ_eq_append_getElem hi, List.map_append, e]
  rfl
theorem batch_len (l : List Tr) : (batchT l).length = l.length := by unfold batchT; rw [List.length_map]
theorem fine_step (l : List Tr) (i : Nat) (t : Tr) (h : l[i]? = some t) (hf : fineT t = true) (ha : (l.take i).all fineT = true) : (l.take (i + 1)).all fineT = true := by
  obtain ⟨hi, e⟩ := List.getElem?_eq_some_iff.1 h
  rw [List.take_succ_eq_append_getElem hi, List.all_append, ha, e]
  simp [hf]
theorem fine_stop (l : List Tr) (i : Nat) (t : Tr) (h : l[i]? = some t) (hf : fineT t = false) : l.all fineT = false := by
  rw [List.all_eq_false]
  exact ⟨t, List.mem_of_getElem? h, by simp [hf]⟩
set_option maxRecDepth 100000 in
set_option maxHeartbeats 1000000 in
theorem twrite_nil (q : Nat) (a : Option Addr) (c : Nat) (w : World) :
    Calls Tryd.prog 37 #[.pointer (some ⟨q, 0, none⟩), .slice a 0 c] w fun e w' => e = .returned (.int .i64 (0)) ∧ w' = w := by
  go_enter Tryd.func37, Tryd.ntmps37
  go_wp2_with fail
  go_ret
  exact ⟨rfl, rfl⟩
end Go.Proofs.YtaedgfnfkacimaaDoor

/- trust.Store.Add: some are there. The program's walk. Printed by mktadd.py. -/
set_option linter.unusedSimpArgs false
set_option linter.unusedVariables false
namespace Go.Proofs.YtaedgfnfkacimaaDoor
open Go.RowKit Go.WideMaps Go.Maps Go.Sort Go.Shelf Pl

theorem SRow.at_lt {w : World} {base k : Nat} {v : Value} {l : List Bs} (h : SRow w base v l) (hk : v.ownBlock = some k) : k < w.heap.size := by
  rcases h.cells with ⟨rfl, _⟩ | ⟨g, cap, rfl, _, h2, _⟩
  · cases hk
  · cases hk; exact h2
theorem may_at {l : List Tr} (h : mayR (batchT l) = true) {i : Nat} {t : Tr} (hi : l[i]? = some t) : (writT t).length ≤ 65536 := by
  unfold mayR at h
  simp only [Bool.and_eq_true, List.all_eq_true, decide_eq_true_eq] at h
  have := h.1.2 (1 :: writT t) (List.mem_map.2 ⟨t, List.mem_of_getElem? hi, rfl⟩)
  simp at this
  omega
theorem TRow.low {w : World} {base c : Nat} {v : Value} {t : Tr} (h : TRow w base v t) (hc : c ≤ base) : TRow w c v t := by
  obtain ⟨sk, ms, h1, h2, h3⟩ := h
  exact ⟨sk, ms, h1, h2.low hc, h3.low hc⟩
theorem TRow.drew {w : World} {base : Nat} {v : Value} {t : Tr} (h : TRow w base v t) : TRow w.drew base v t := by
  obtain ⟨sk, ms, h1, h2, h3⟩ := h
  exact ⟨sk, ms, h1, h2.drew, h3.kept (fun k _ => rfl)⟩
theorem TrM.drew {w : World} {base m : Nat} {T : List (Int × Tr)} (h : TrM w base m T) : TrM w.drew base m T := by
  obtain ⟨D, ho, hD⟩ := h
  exact ⟨D, ho.drew, hD.has, fun e he => (by obtain ⟨v, h1, h2⟩ := hD.val e he; exact ⟨v, h1, h2.drew⟩), hD.nodup, hD.size⟩
theorem MRow.at_lt {w : World} {base k : Nat} {v : Value} {l : List (Bs × Int)} (h : MRow w base v l) (hk : v.ownBlock = some k) : k < w.heap.size := by
  rcases h.cells with ⟨rfl, _⟩ | ⟨g, cap, rfl, _, h2, _⟩
  · cases hk
  · cases hk; exact h2
theorem TRow.modl {w w' : World} {base : Nat} {l : List Nat} {v : Value} {t : Tr} (h : TRow w base v t) (hm : Mod l w w') (hl : ∀ x ∈ l, x < base) : TRow w' base v t := by
  obtain ⟨sk, ms, h1, h2, h3⟩ := h
  exact ⟨sk, ms, h1, h2.kept (fun k hk => hm.block k (h2.at_lt hk) (fun hi => absurd (hl k hi) (Nat.not_lt.2 (h2.own k hk)))), h3.kept (fun k hk => hm.block k (h3.at_lt hk) (fun hi => absurd (hl k hi) (Nat.not_lt.2 (h3.own k hk))))⟩
theorem TrM.modl {w w' : World} {base m : Nat} {l : List Nat} {T : List (Int × Tr)} (h : TrM w base m T) (hm : Mod l w w') (hl : ∀ x ∈ l, x < base) (hn : m ∉ l) : TrM w' base m T := by
  obtain ⟨D, ho, hD⟩ := h
  exact ⟨D, tmap_at ho (hm.block m ho.lt hn), hD.has, fun e he => (by obtain ⟨v, h1, h2⟩ := hD.val e he; exact ⟨v, h1, h2.modl hm hl⟩), hD.nodup, hD.size⟩
theorem Blk.notmap {w : World} {b m : Nat} {cs : Array Value} {es : Array MapEntry} {c : Nat} (h : Blk w b cs) (hc : cs[0]?.isSome = true) (hm : w.heap[m]? = some (.map es c)) : m ≠ b := by
  intro e
  subst e
  have h1 := h.cell 0
  unfold World.cell? at h1
  rw [hm] at h1
  rw [← h1] at hc
  cases hc
theorem wp_mapT {o : Oper} {a : Act} {w : World} {K : Act → World → Prop} {Q : Exit → Act → World → Prop} (m x v : Operand) (hop : o.op = Op.mapUpdate 75 m x v)
    {base b : Nat} {T : List (Int × Tr)} (hm : a.eval m = .map (some b)) (hM : TrM w base b T) (hl : T.length < 1000000) (k : Int) (hk : -9223372036854775808 ≤ k ∧ k ≤ 9223372036854775807) {t : Tr} {vv : Value} (hx : a.eval x = .int .i64 (k)) (hv : a.eval v = vv) (hr : TRow w base vv t)
    (hK : ∀ w', TrM w' base b (putK T k t) → w.grownBy w' (some b) → K (a.put o.dst undef) w') : o.wp Tryd.prog a w K Q := by
  obtain ⟨w', hrun, r1, r2⟩ := hM.update hl k hk t vv hr
  unfold Oper.wp
  simp [execOp, hop, hm, hx, hv, hrun, Result.andThen]
  exact hK w' r1 r2
set_option maxRecDepth 100000 in
set_option maxHeartbeats 8000000 in
theorem tadd_any (av : List Nat) (base p j q m : Nat) (span : Int) (d : Dk) (T : List (Int × Tr)) (v : Value) (l : List Tr) (hn : l.length ≤ 1000) (hT : T.length ≤ 10000) (hm : mayR (batchT l) = true) (hf : -9223372036854775808 ≤ d.fuse ∧ d.fuse ≤ 9223372036854775807) (hrm : 0 ≤ d.room ∧ d.room ≤ 1048576) (hsl : d.s.length ≤ 1048576) (hcl : ∀ t ∈ l, t.head.skips.length ≤ 1000000 ∧ t.set.length ≤ 1000000 ∧ -9223372036854775808 ≤ t.head.height ∧ t.head.height ≤ 9223372036854775807) (w : World) (hk : KT w) (h : DkV w av p d) (hj : Blk w j #[.pointer (some ⟨p, 0, none⟩), .bool false]) (hpj : p ≠ j) (hja : j ∈ av) (hqa : q ∈ av) (hav : ∀ x ∈ av, x < w.heap.size) (hpb : p < base) (hjb : j < base) (hqb : q < base) (hpq : p ≠ q) (hqj : q ≠ j) (hbase : base ≤ w.heap.size) (B : Blk w q #[.map (some m), .int .i64 (span), .pointer (some ⟨j, 0, none⟩)]) (hM : TrM w base m T) (hv : TL w v l) :
    Calls Tryd.prog 13 #[.pointer (some ⟨q, 0, none⟩), v] w fun e w' => ∃ m', e = .returned (.int .i64 ((addD d T l).2.2.1)) ∧ Blk w' q #[.map (some m'), .int .i64 (span), .pointer (some ⟨j, 0, none⟩)] ∧ TrM w' base m' (addD d T l).2.1 ∧ DkV w' av p (addD d T l).1 ∧ Blk w' j #[.pointer (some ⟨p, 0, none⟩), .bool (addD d T l).2.2.2] ∧ Mod [p, j, q] w w' := by
  have hpa := h.lt
  have HAV := Lib.hid hav
  obtain ⟨a, cap, rfl⟩ := hv.form
  have HN := Lib.hid hn
  have HCL := Lib.hid hcl
  have HM := Lib.hid hm
  have HV := Lib.hid hv
  have HJ := Lib.hid hj
  have HD := Lib.hid h
  have HTM := Lib.hid hM
  have HK := Lib.hid hk
  have HB0 := Lib.hid B
  have HBASE := Lib.hid hbase
  clear hcl hm hv hj h hM hk B hbase hav
  go_enter Tryd.func13, Tryd.ntmps13
  go_wp2_with fail
  go_loopw [5, 18] (fun s5 s18 wr => ∃ i : Nat, i ≤ l.length ∧ s18 = .int .i64 (i) ∧ SRow wr w.heap.size s5 (batchT (l.take i)) ∧ Hid ((l.take i).all fineT = true) ∧ Below w.heap.size w wr) (fun _ s18 _ => l.length - (intOf s18).toNat)
  case atStart => exact ⟨0, by omega, rfl, SRow.nil _ _, Lib.hid (by simp), Below.refl _ _⟩
  case round =>
    obtain ⟨i, hi, rfl, hS, HF, hb⟩ := hrel
    obtain ⟨sa, sc, rfl⟩ := hS.form
    by_cases hlt : i < l.length
    · have hbd : 0 ≤ (i : Int) ∧ (i : Int) < (l.length : Int) := by omega
      obtain ⟨t, ht⟩ : ∃ t, l[i]? = some t := ⟨l[i], List.getElem?_eq_getElem hlt⟩
      obtain ⟨g, off, sk, ms, rfl, hg, hR, h1, h2, p1, p2⟩ := HV.out.at i t ht
      have HSN := Lib.hid (batch_snoc l i t ht)
      have HFS := Lib.hid (fine_stop l i t ht)
      have HFY := Lib.hid (fine_step l i t ht)
      have HBL := Lib.hid (batch_len (l.take i))
      have hwl := may_at HM.out ht
      clear ht
      have hbl : (batchT (l.take i)).length ≤ 1000 := by rw [HBL.out, List.length_take]; omega
      generalize hBT : batchT (l.take i) = BT at *
      obtain ⟨⟨a1, a2, a3, lb, pa, st, rc, tx, me, ne, K⟩, L, ta⟩ := t
      have hR2 := rangeAt_keep hR hg hb
      obtain ⟨ka, kc, rfl⟩ := h1.form
      obtain ⟨ma, mc, rfl⟩ := h2.form
      unfold tcs at hR2
      simp only at hR2 h1 h2
      have q1 := fun W (hbx : Below w.heap.size w W) => tr_encode a1 a2 a3 lb pa st rc tx me ne K _ L _ ta W (h1.keep hbx) (h2.keep hbx) (HK.out.keep hbx)
      have hsr := hb.size
      clear hR h1 h2 p1 p2 hg hBT
      go_wp2_with (first | (refine wpList_rowLoadAt row_trust rfl (.tmp 20) rfl rfl rfl hR2 ?_) | (refine wpList_rowStore row_trust rfl rfl (.tmp 7) (.tmp 21) rfl rfl rfl (vs := [.int .i64 (a1), .int .i64 (a2), .int .i64 (a3), .bool lb, .string ⟨List.toArray (pa)⟩, .string ⟨List.toArray (st)⟩, .string ⟨List.toArray (rc)⟩, .string ⟨List.toArray (tx)⟩, .string ⟨List.toArray (me)⟩, .string ⟨List.toArray (ne)⟩, .slice ka K.length kc, .slice ma L.length mc, .int .i64 (ta)]) rfl (by simp [Value.oneCell']) (us := [.int .i64 (0), .int .i64 (0), .int .i64 (0), .bool false, .string ⟨List.toArray ([])⟩, .string ⟨List.toArray ([])⟩, .string ⟨List.toArray ([])⟩, .string ⟨List.toArray ([])⟩, .string ⟨List.toArray ([])⟩, .string ⟨List.toArray ([])⟩, .slice none 0 0, .slice none 0 0, .int .i64 (0)]) rfl (Blk.new' (by simp)) ?_; intro w2 N2 m2) | (refine wpList_rowLoad row_trust rfl (.tmp 7) rfl rfl (vs := [.int .i64 (a1), .int .i64 (a2), .int .i64 (a3), .bool lb, .string ⟨List.toArray (pa)⟩, .string ⟨List.toArray (st)⟩, .string ⟨List.toArray (rc)⟩, .string ⟨List.toArray (tx)⟩, .string ⟨List.toArray (me)⟩, .string ⟨List.toArray (ne)⟩, .slice ka K.length kc, .slice ma L.length mc, .int .i64 (ta)]) rfl N2 ?_))
      have hb0 := Below.allocS hb (.cells #[.int .i64 (0), .int .i64 (0), .int .i64 (0), .bool false, .string ⟨List.toArray ([])⟩, .string ⟨List.toArray ([])⟩, .string ⟨List.toArray ([])⟩, .string ⟨List.toArray ([])⟩, .string ⟨List.toArray ([])⟩, .string ⟨List.toArray ([])⟩, .slice none 0 0, .slice none 0 0, .int .i64 (0)] 27)
      have hb2 := Below.mod hb0 m2 hb0.size (by simp; omega)
      have hS2 : SRow w2 w.heap.size (.slice sa BT.length sc) BT := (hS.keep (Below.allocS (Below.refl _ _) _)).kept (fun k hk => m2.block k (by have := hS.at_lt hk; simp; omega) (by have := hS.at_lt hk; simp; omega))
      refine (q1 _ hb2).mono ?_
      rintro e w3 ⟨rfl, hbx⟩
      have hb3 := hb2.trans (hbx.mono hb2.size)
      have hS3 := hS2.keep hbx
      have hs3 := hb3.size
      clear q1 hS hS2 hb hb0 hb2 hR2 N2 m2 hbx
      cases hfb : fineT ⟨⟨a1, a2, a3, lb, pa, st, rc, tx, me, ne, K⟩, L, ta⟩
      · rw [encTR_no hfb]
        have hbad := HFS.out hfb
        clear hfb
        go_wp2_with fail
        all_goals (go_ret; rw [addD_bad hbad]; exact ⟨m, rfl, HB0.out.keep hb3, HTM.out.keep hb3, HD.out.keep hb3, HJ.out.keep hb3, Mod.of_below hb3⟩)
      · rw [encTR_yes hfb]
        have HFY2 := Lib.hid (HFY.out hfb HF.out)
        clear hfb
        generalize writT ⟨⟨a1, a2, a3, lb, pa, st, rc, tx, me, ne, K⟩, L, ta⟩ = X at *
        have k1 : ¬ 9223372036854775807 < 1 + X.length := by omega
        have hS4 : SS (w3.alloc (.cells #[.string ⟨List.toArray (1 :: X)⟩] 9)) (.slice (some ⟨w3.heap.size, 0, none⟩) 1 1) [1 :: X] := SS.of (l := [1 :: X]) (by simp) (by unfold maxLen; omega) (by simp) (ssrc1 _ _ _)
        go_wp2_with (first | (at_builtin; refine wpList_appS rfl (.tmp 30) (.tmp 33) rfl w.heap.size _ BT rfl (hS3.alloc _) w3.heap.size 0 1 1 [1 :: X] rfl rfl (ssrc1 _ _ _) (by omega) (by simp; omega) ?_; rintro v5 w5 hS5 hb5))
        refine ⟨⟨i + 1, by omega, by go_num, by rw [HSN.out]; exact hS5, HFY2, (Below.allocS hb3 _).trans hb5⟩, by simp [intOf]; omega⟩
    · have hil : i = l.length := by omega
      subst hil
      rw [List.take_length] at hS HF
      have q2 := tclone_any base m T wr (HTM.out.keep hb)
      have B1 := HB0.out.keep hb
      obtain ⟨b1, b2, b3⟩ := id B1
      go_wp2_with fail
      refine q2.mono ?_
      rintro e w1 ⟨rfl, hM1, _, hbx⟩
      obtain ⟨m', hm'⟩ : ∃ m', m' = wr.heap.size := ⟨_, rfl⟩
      rw [← hm'] at hM1 ⊢
      have hmw : w.heap.size ≤ m' := by have := hb.size; omega
      have hS1 := hS.keep hbx
      have hb1 := hb.trans (hbx.mono hb.size)
      have hml := hM1.lt
      clear q2 hm' hS hb hbx B1 b1 b2 b3
      have HBL := Lib.hid (batch_len l)
      generalize hBT : batchT l = BT at *
      obtain ⟨ba, bc, hbv⟩ := hS1.form
      clear hi hlt
      go_wp2_with fail
      go_loopw [43] (fun s43 wr => ∃ (i : Nat) (Ti : List (Int × Tr)), i ≤ l.length ∧ s43 = .int .i64 (i) ∧ TrM wr base m' Ti ∧ Hid (addsT l T = addsT (l.drop i) Ti) ∧ Ti.length ≤ T.length + i ∧ SRow wr w.heap.size (.slice sa BT.length sc) BT ∧ Below w.heap.size w wr) (fun s43 _ => l.length - (intOf s43).toNat)
      case atStart => exact ⟨0, T, by omega, rfl, hM1, Lib.hid (by rw [List.drop_zero]), by omega, hS1, hb1⟩
      case round =>
        obtain ⟨i, Ti, hi, rfl, hMr, HA, hTl, hSr, hbr⟩ := hrel
        clear hM1 hS1 hb1 hml
        by_cases hlt : i < l.length
        · have hbd : 0 ≤ (i : Int) ∧ (i : Int) < (l.length : Int) := by omega
          obtain ⟨t, ht⟩ : ∃ t, l[i]? = some t := ⟨l[i], List.getElem?_eq_getElem hlt⟩
          obtain ⟨g, off, sk, ms, rfl, hg, hR, h1, h2, p1, p2⟩ := HV.out.at i t ht
          obtain ⟨l1, l2, l3⟩ := HCL.out t (List.mem_of_getElem? ht)
          have HDR := Lib.hid (dropT l i t ht)
          clear ht
          obtain ⟨⟨a1, a2, a3, lb, pa, st, rc, tx, me, ne, K⟩, L, ta⟩ := t
          have hR2 := rangeAt_keep hR hg hbr
          obtain ⟨ka, kc, rfl⟩ := h1.form
          obtain ⟨ma, mc, rfl⟩ := h2.form
          unfold tcs at hR2
          simp only at hR2 h1 h2 l1 l2 l3
          have hsr := hbr.size
          have q4 := fun W (hbx : Below w.heap.size w W) => tr_own a1 a2 a3 lb pa st rc tx me ne K L ta _ _ W (h1.keep hbx) (h2.keep hbx) p1 p2 l1 l2
          clear hR p1 p2 hg
          by_cases hin : a1 ∈ hts Ti
          · obtain ⟨⟨⟨d1, d2, d3, eb, pb, su, rd, ty, mf, nf, K2⟩, L2, tb⟩, ho⟩ : ∃ o, (a1, o) ∈ Ti := by
              obtain ⟨e, he, e1⟩ := List.mem_map.1 hin
              exact ⟨e.2, by rw [← e1]; exact he⟩
            have hcc := clashT_there (t := ⟨⟨a1, a2, a3, lb, pa, st, rc, tx, me, ne, K⟩, L, ta⟩) hMr.nodup ho
            have q3 := fun (u v : Value) (W : World) (hu : TV W u ⟨⟨d1, d2, d3, eb, pb, su, rd, ty, mf, nf, K2⟩, L2, tb⟩) (hv : TV W v ⟨⟨a1, a2, a3, lb, pa, st, rc, tx, me, ne, K⟩, L, ta⟩) => tr_same u v _ _ W hu hv
            simp only at hcc q3
            generalize decide ((encHR (⟨d1, d2, d3, eb, pb, su, rd, ty, mf, nf, K2⟩ : Hd)).1 = (encHR (⟨a1, a2, a3, lb, pa, st, rc, tx, me, ne, K⟩ : Hd)).1) = sm at *
            have HCC := Lib.hid hcc
            clear hcc
            go_wp2_with (first | (refine wpList_rowLoadAt row_trust rfl (.tmp 45) rfl rfl rfl hR2 ?_) | (refine wpList_rowStore row_trust rfl rfl (.tmp 12) (.tmp 46) rfl rfl rfl (vs := [.int .i64 (a1), .int .i64 (a2), .int .i64 (a3), .bool lb, .string ⟨List.toArray (pa)⟩, .string ⟨List.toArray (st)⟩, .string ⟨List.toArray (rc)⟩, .string ⟨List.toArray (tx)⟩, .string ⟨List.toArray (me)⟩, .string ⟨List.toArray (ne)⟩, .slice ka K.length kc, .slice ma L.length mc, .int .i64 (ta)]) rfl (by simp [Value.oneCell']) (us := [.int .i64 (0), .int .i64 (0), .int .i64 (0), .bool false, .string ⟨List.toArray ([])⟩, .string ⟨List.toArray ([])⟩, .string ⟨List.toArray ([])⟩, .string ⟨List.toArray ([])⟩, .string ⟨List.toArray ([])⟩, .string ⟨List.toArray ([])⟩, .slice none 0 0, .slice none 0 0, .int .i64 (0)]) rfl (Blk.new' (by simp)) ?_; intro w2 N2 m2; obtain ⟨b1, b2, b3⟩ := id N2; have hbn := Below.mod (Below.allocS (Below.refl wr.heap.size wr) (.cells #[.int .i64 (0), .int .i64 (0), .int .i64 (0), .bool false, .string ⟨List.toArray ([])⟩, .string ⟨List.toArray ([])⟩, .string ⟨List.toArray ([])⟩, .string ⟨List.toArray ([])⟩, .string ⟨List.toArray ([])⟩, .string ⟨List.toArray ([])⟩, .slice none 0 0, .slice none 0 0, .int .i64 (0)] 27)) m2 (by simp) (by simp); obtain ⟨v, hrun, hov, _⟩ := (hMr.keep hbn).look a1 l3; rw [decide_eq_true hin] at hrun; obtain ⟨sk2, ms2, rfl, r1, r2⟩ := hov _ ho; simp only at hrun r1 r2; obtain ⟨va, vc, rfl⟩ := r1.form; obtain ⟨ua, uc, rfl⟩ := r2.form) | (refine wpList_rowStore row_trust rfl rfl (.tmp 13) (.tmp 53) rfl rfl rfl (vs := [.int .i64 (d1), .int .i64 (d2), .int .i64 (d3), .bool eb, .string ⟨List.toArray (pb)⟩, .string ⟨List.toArray (su)⟩, .string ⟨List.toArray (rd)⟩, .string ⟨List.toArray (ty)⟩, .string ⟨List.toArray (mf)⟩, .string ⟨List.toArray (nf)⟩, .slice va K2.length vc, .slice ua L2.length uc, .int .i64 (tb)]) rfl (by simp [Value.oneCell']) (us := [.int .i64 (0), .int .i64 (0), .int .i64 (0), .bool false, .string ⟨List.toArray ([])⟩, .string ⟨List.toArray ([])⟩, .string ⟨List.toArray ([])⟩, .string ⟨List.toArray ([])⟩, .string ⟨List.toArray ([])⟩, .string ⟨List.toArray ([])⟩, .slice none 0 0, .slice none 0 0, .int .i64 (0)]) rfl (Blk.new' (by simp)) ?_; intro w4 N4 m4; have N5 := (N2.alloc (.cells #[.int .i64 (0), .int .i64 (0), .int .i64 (0), .bool false, .string ⟨List.toArray ([])⟩, .string ⟨List.toArray ([])⟩, .string ⟨List.toArray ([])⟩, .string ⟨List.toArray ([])⟩, .string ⟨List.toArray ([])⟩, .string ⟨List.toArray ([])⟩, .slice none 0 0, .slice none 0 0, .int .i64 (0)] 27)).mod m4 (by simp; omega)) | (refine wpList_rowLoadG row_trust ?hw (.tmp 13) rfl rfl (vs := [.int .i64 (d1), .int .i64 (d2), .int .i64 (d3), .bool eb, .string ⟨List.toArray (pb)⟩, .string ⟨List.toArray (su)⟩, .string ⟨List.toArray (rd)⟩, .string ⟨List.toArray (ty)⟩, .string ⟨List.toArray (mf)⟩, .string ⟨List.toArray (nf)⟩, .slice va K2.length vc, .slice ua L2.length uc, .int .i64 (tb)]) rfl N4 ?_; (case hw => rfl)) | (refine wpList_rowLoadG row_trust ?hw (.tmp 12) rfl rfl (vs := [.int .i64 (a1), .int .i64 (a2), .int .i64 (a3), .bool lb, .string ⟨List.toArray (pa)⟩, .string ⟨List.toArray (st)⟩, .string ⟨List.toArray (rc)⟩, .string ⟨List.toArray (tx)⟩, .string ⟨List.toArray (me)⟩, .string ⟨List.toArray (ne)⟩, .slice ka K.length kc, .slice ma L.length mc, .int .i64 (ta)]) rfl N5 ?_; (case hw => rfl)))
            have hbm := Below.mod (Below.allocS (Below.refl w2.heap.size w2) (.cells #[.int .i64 (0), .int .i64 (0), .int .i64 (0), .bool false, .string ⟨List.toArray ([])⟩, .string ⟨List.toArray ([])⟩, .string ⟨List.toArray ([])⟩, .string ⟨List.toArray ([])⟩, .string ⟨List.toArray ([])⟩, .string ⟨List.toArray ([])⟩, .slice none 0 0, .slice none 0 0, .int .i64 (0)] 27)) m4 (by simp) (by simp)
            have hbq := hbn.trans (hbm.mono hbn.size)
            have hb4 := hbr.trans (hbq.mono hbr.size)
            refine (q3 _ _ w4 ⟨_, _, rfl, (r1.keep hbm).ss, (r2.keep hbm).ms⟩ ⟨_, _, rfl, h1.keep hb4, h2.keep hb4⟩).mono ?_
            rintro e w5 ⟨rfl, hbx⟩
            have hM5 := (hMr.keep hbq).keep hbx
            have hS5 := (hSr.keep hbq).keep hbx
            have hb5 := hb4.trans (hbx.mono hb4.size)
            have hs5 := hb5.size
            have hs6 := hbq.size
            have hs7 := hbx.size
            have hbs := HBASE.out
            have hml := hMr.lt
            replace N5 := N5.keep hbx
            clear hrun hMr hSr hbn hbm hbq N2 N4 m2 m4 b1 b2 b3 hR2 hbr hbx hb4 hov r1 r2 q3 h1 h2
            cases sm
            · have HNO : Hid (addsT l T = none) := Lib.hid (by rw [HA.out, HDR.out]; exact addsT_clash HCC.out)
              have hMo := HTM.out.keep hb5
              have hBo := HB0.out.keep hb5
              have hDo := HD.out.keep hb5
              have hJo := HJ.out.keep hb5
              clear q4
              go_wp2_with fail
              all_goals (go_ret; rw [addD_there HF.out HNO.out]; exact ⟨m, rfl, hBo, hMo, hDo, hJo, Mod.of_below hb5⟩)
            · have HA2 : Hid (addsT l T = addsT (l.drop (i + 1)) (putK Ti a1 ⟨⟨a1, a2, a3, lb, pa, st, rc, tx, me, ne, K⟩, L, ta⟩)) := Lib.hid (by rw [HA.out, HDR.out]; exact addsT_step HCC.out)
              go_wp2_with fail
              refine wpH_startM [m'] (by kernel_rfl) (fun hS => ?_)
              (refine wpH_pure 0 ?_ (oi := { dst := some 62, op := Op.move (Operand.tmp 10), type := 75, pos := "store.go:90", after := #[], guard := none }) rfl (by kernel_rfl) (by kernel_rfl) (by kernel_rfl) (by rfl) hS (fun _ _ _ h => h) ?_ ?_; rotate_left; focus (intro w; go_simp; try with_reducible rfl))
              try simp only [Act.put, List.setIfInBounds_toArray, List.set_cons_zero, List.set_cons_succ]
              (refine wpH_pure 1 ?_ (oi := { dst := some 63, op := Op.fieldAddr 27 (Operand.tmp 12) 0, type := 0, pos := "store.go:90", after := #[], guard := none }) rfl (by kernel_rfl) (by kernel_rfl) (by kernel_rfl) (by rfl) hS (fun _ _ _ h => h) ?_ ?_; rotate_left; focus (intro w; go_simp; try with_reducible rfl))
              try simp only [Act.put, List.setIfInBounds_toArray, List.set_cons_zero, List.set_cons_succ]
              (refine wpH_pure 2 ?_ (oi := { dst := some 64, op := Op.fieldAddr 24 (Operand.tmp 63) 0, type := 0, pos := "store.go:90", after := #[{ on := 1, ground := Ground.data }], guard := none }) rfl (by kernel_rfl) (by kernel_rfl) (by kernel_rfl) (by rfl) hS (fun _ _ _ h => h) ?_ ?_; rotate_left; focus (intro w; go_simp; try with_reducible rfl))
              try simp only [Act.put, List.setIfInBounds_toArray, List.set_cons_zero, List.set_cons_succ]
              refine wpH_load 3 (.int .i64 (a1)) (oi := { dst := some 65, op := Op.load 3 (Operand.tmp 64), type := 3, pos := "store.go:90", after := #[{ on := 2, ground := Ground.data }], guard := none }) rfl (by kernel_rfl) (by kernel_rfl) (by kernel_rfl) (by rfl) hS (fun _ _ _ h => h) (fun w hb2 => (by have c := (N5.mod hb2 (by simp; omega)).cell 0; go_simp; try rfl)) ?_
              try simp only [Act.put, List.setIfInBounds_toArray, List.set_cons_zero, List.set_cons_succ]
              refine wpH_row row_trust 4 (oi := { dst := some 66, op := Op.load 27 (Operand.tmp 12), type := 27, pos := "store.go:90", after := #[], guard := none }) rfl (by kernel_rfl) (by kernel_rfl) (by kernel_rfl) (by rfl) hS (vs := [.int .i64 (a1), .int .i64 (a2), .int .i64 (a3), .bool lb, .string ⟨List.toArray (pa)⟩, .string ⟨List.toArray (st)⟩, .string ⟨List.toArray (rc)⟩, .string ⟨List.toArray (tx)⟩, .string ⟨List.toArray (me)⟩, .string ⟨List.toArray (ne)⟩, .slice ka K.length kc, .slice ma L.length mc, .int .i64 (ta)]) (fun _ _ _ h => h) (.tmp 12) rfl rfl (rfl) (fun w hb2 => N5.mod hb2 (by simp; omega)) ?_
              try simp only [Act.put, List.setIfInBounds_toArray, List.set_cons_zero, List.set_cons_succ]
              refine wpH_call 5 (oi := { dst := some 67, op := Op.call { callee := Callee.value (Operand.func 36), args := #[Operand.tmp 66], argTypes := #[27] }, type := 27, pos := "store.go:90", after := #[{ on := 4, ground := Ground.data }], guard := none }) rfl (by kernel_rfl) (by rfl) (q4 _ (Below.mod hb5 hS hs5 (by simp; omega))) ?_ ?_
              · (go_simp; try rfl)
              rintro e w' ⟨v7, rfl, hvr, hbx⟩
              refine ⟨_, rfl, hS.trans (Mod.of_below hbx), ?_⟩
              replace hS := hS.trans (Mod.of_below hbx)
              try simp only [Act.put, List.setIfInBounds_toArray, List.set_cons_zero, List.set_cons_succ]
              refine wpH_op 6 (oi := { dst := none, op := Op.mapUpdate 75 (Operand.tmp 62) (Operand.tmp 65) (Operand.tmp 67), type := 0, pos := "store.go:90", after := #[{ on := 0, ground := Ground.data }, { on := 3, ground := Ground.data }, { on := 5, ground := Ground.data }, { on := 5, ground := Ground.chain }, { on := 0, ground := Ground.phase }, { on := 1, ground := Ground.phase }, { on := 2, ground := Ground.phase }, { on := 3, ground := Ground.phase }, { on := 4, ground := Ground.phase }, { on := 5, ground := Ground.phase }], guard := none }) rfl (by kernel_rfl) (by rfl) ?_
              have hM6 := hM5.drew.keep hbx
              have hS6 := hS5.drew.keep hbx
              obtain ⟨es6, c6, hblk⟩ := hM6.block
              refine wp_mapT (.tmp 62) (.tmp 65) (.tmp 67) rfl rfl hM6 (by omega) a1 l3 rfl rfl (hvr.low (show base ≤ w5.heap.size from by omega)) ?_
              rintro w7 hM7 hg7
              have hS7 := hS6.grown hblk hg7
              have m7 : Mod [m'] _ w7 := hS.trans (grown_mod hg7)
              refine ⟨m7, ?_⟩
              try simp only [Act.put, List.setIfInBounds_toArray, List.set_cons_zero, List.set_cons_succ]
              refine wpAnyH_done (by kernel_rfl) ?_ _
              have hb7 := Below.mod hb5 m7 hs5 (by simp; omega)
              clear hM6 hS6 hblk hg7 hbx hS q4 hM5 hS5 N5 hb5
              go_wp2_with fail
              exact ⟨⟨i + 1, putK Ti a1 ⟨⟨a1, a2, a3, lb, pa, st, rc, tx, me, ne, K⟩, L, ta⟩, by omega, by go_num, hM7, HA2, by have := putK_len Ti a1 ⟨⟨a1, a2, a3, lb, pa, st, rc, tx, me, ne, K⟩, L, ta⟩; omega, hS7, hb7⟩, by simp [intOf]; omega⟩
          · go_wp2_with (first | (refine wpList_rowLoadAt row_trust rfl (.tmp 45) rfl rfl rfl hR2 ?_) | (refine wpList_rowStore row_trust rfl rfl (.tmp 12) (.tmp 46) rfl rfl rfl (vs := [.int .i64 (a1), .int .i64 (a2), .int .i64 (a3), .bool lb, .string ⟨List.toArray (pa)⟩, .string ⟨List.toArray (st)⟩, .string ⟨List.toArray (rc)⟩, .string ⟨List.toArray (tx)⟩, .string ⟨List.toArray (me)⟩, .string ⟨List.toArray (ne)⟩, .slice ka K.length kc, .slice ma L.length mc, .int .i64 (ta)]) rfl (by simp [Value.oneCell']) (us := [.int .i64 (0), .int .i64 (0), .int .i64 (0), .bool false, .string ⟨List.toArray ([])⟩, .string ⟨List.toArray ([])⟩, .string ⟨List.toArray ([])⟩, .string ⟨List.toArray ([])⟩, .string ⟨List.toArray ([])⟩, .string ⟨List.toArray ([])⟩, .slice none 0 0, .slice none 0 0, .int .i64 (0)]) rfl (Blk.new' (by simp)) ?_; intro w2 N2 m2; obtain ⟨b1, b2, b3⟩ := id N2; have hbn := Below.mod (Below.allocS (Below.refl wr.heap.size wr) (.cells #[.int .i64 (0), .int .i64 (0), .int .i64 (0), .bool false, .string ⟨List.toArray ([])⟩, .string ⟨List.toArray ([])⟩, .string ⟨List.toArray ([])⟩, .string ⟨List.toArray ([])⟩, .string ⟨List.toArray ([])⟩, .string ⟨List.toArray ([])⟩, .slice none 0 0, .slice none 0 0, .int .i64 (0)] 27)) m2 (by simp) (by simp); obtain ⟨v, hrun, _, hnv⟩ := (hMr.keep hbn).look a1 l3; rw [decide_eq_false hin] at hrun; obtain rfl := hnv hin) | (refine wpList_rowStore row_trust rfl rfl (.tmp 13) (.tmp 53) rfl rfl rfl (vs := [.int .i64 (0), .int .i64 (0), .int .i64 (0), .bool false, .string ⟨List.toArray ([])⟩, .string ⟨List.toArray ([])⟩, .string ⟨List.toArray ([])⟩, .string ⟨List.toArray ([])⟩, .string ⟨List.toArray ([])⟩, .string ⟨List.toArray ([])⟩, .slice none 0 0, .slice none 0 0, .int .i64 (0)]) rfl (by simp [Value.oneCell']) (us := [.int .i64 (0), .int .i64 (0), .int .i64 (0), .bool false, .string ⟨List.toArray ([])⟩, .string ⟨List.toArray ([])⟩, .string ⟨List.toArray ([])⟩, .string ⟨List.toArray ([])⟩, .string ⟨List.toArray ([])⟩, .string ⟨List.toArray ([])⟩, .slice none 0 0, .slice none 0 0, .int .i64 (0)]) rfl (Blk.new' (by simp)) ?_; intro w4 N4 m4))
            have HA2 : Hid (addsT l T = addsT (l.drop (i + 1)) (putK Ti a1 ⟨⟨a1, a2, a3, lb, pa, st, rc, tx, me, ne, K⟩, L, ta⟩)) := Lib.hid (by rw [HA.out, HDR.out]; exact addsT_step (clashT_new hin))
            have N5 := (N2.alloc (.cells #[.int .i64 (0), .int .i64 (0), .int .i64 (0), .bool false, .string ⟨List.toArray ([])⟩, .string ⟨List.toArray ([])⟩, .string ⟨List.toArray ([])⟩, .string ⟨List.toArray ([])⟩, .string ⟨List.toArray ([])⟩, .string ⟨List.toArray ([])⟩, .slice none 0 0, .slice none 0 0, .int .i64 (0)] 27)).mod m4 (by simp; omega)
            have hbm := Below.mod (Below.allocS (Below.refl w2.heap.size w2) (.cells #[.int .i64 (0), .int .i64 (0), .int .i64 (0), .bool false, .string ⟨List.toArray ([])⟩, .string ⟨List.toArray ([])⟩, .string ⟨List.toArray ([])⟩, .string ⟨List.toArray ([])⟩, .string ⟨List.toArray ([])⟩, .string ⟨List.toArray ([])⟩, .slice none 0 0, .slice none 0 0, .int .i64 (0)] 27)) m4 (by simp) (by simp)
            have hbq := hbn.trans (hbm.mono hbn.size)
            have hM5 := hMr.keep hbq
            have hS5 := hSr.keep hbq
            have hb5 := hbr.trans (hbq.mono hbr.size)
            have hs5 := hb5.size
            have hs6 := hbq.size
            have hbs := HBASE.out
            have hml := hMr.lt
            clear hrun hMr hSr hbn hbm hbq N2 N4 m2 m4 b1 b2 b3 hR2 hnv hbr
            refine wpH_startM [m'] (by kernel_rfl) (fun hS => ?_)
            (refine wpH_pure 0 ?_ (oi := { dst := some 62, op := Op.move (Operand.tmp 10), type := 75, pos := "store.go:90", after := #[], guard := none }) rfl (by kernel_rfl) (by kernel_rfl) (by kernel_rfl) (by rfl) hS (fun _ _ _ h => h) ?_ ?_; rotate_left; focus (intro w; go_simp; try with_reducible rfl))
            try simp only [Act.put, List.setIfInBounds_toArray, List.set_cons_zero, List.set_cons_succ]
            (refine wpH_pure 1 ?_ (oi := { dst := some 63, op := Op.fieldAddr 27 (Operand.tmp 12) 0, type := 0, pos := "store.go:90", after := #[], guard := none }) rfl (by kernel_rfl) (by kernel_rfl) (by kernel_rfl) (by rfl) hS (fun _ _ _ h => h) ?_ ?_; rotate_left; focus (intro w; go_simp; try with_reducible rfl))
            try simp only [Act.put, List.setIfInBounds_toArray, List.set_cons_zero, List.set_cons_succ]
            (refine wpH_pure 2 ?_ (oi := { dst := some 64, op := Op.fieldAddr 24 (Operand.tmp 63) 0, type := 0, pos := "store.go:90", after := #[{ on := 1, ground := Ground.data }], guard := none }) rfl (by kernel_rfl) (by kernel_rfl) (by kernel_rfl) (by rfl) hS (fun _ _ _ h => h) ?_ ?_; rotate_left; focus (intro w; go_simp; try with_reducible rfl))
            try simp only [Act.put, List.setIfInBounds_toArray, List.set_cons_zero, List.set_cons_succ]
            refine wpH_load 3 (.int .i64 (a1)) (oi := { dst := some 65, op := Op.load 3 (Operand.tmp 64), type := 3, pos := "store.go:90", after := #[{ on := 2, ground := Ground.data }], guard := none }) rfl (by kernel_rfl) (by kernel_rfl) (by kernel_rfl) (by rfl) hS (fun _ _ _ h => h) (fun w hb2 => (by have c := (N5.mod hb2 (by simp; omega)).cell 0; go_simp; try rfl)) ?_
            try simp only [Act.put, List.setIfInBounds_toArray, List.set_cons_zero, List.set_cons_succ]
            refine wpH_row row_trust 4 (oi := { dst := some 66, op := Op.load 27 (Operand.tmp 12), type := 27, pos := "store.go:90", after := #[], guard := none }) rfl (by kernel_rfl) (by kernel_rfl) (by kernel_rfl) (by rfl) hS (vs := [.int .i64 (a1), .int .i64 (a2), .int .i64 (a3), .bool lb, .string ⟨List.toArray (pa)⟩, .string ⟨List.toArray (st)⟩, .string ⟨List.toArray (rc)⟩, .string ⟨List.toArray (tx)⟩, .string ⟨List.toArray (me)⟩, .string ⟨List.toArray (ne)⟩, .slice ka K.length kc, .slice ma L.length mc, .int .i64 (ta)]) (fun _ _ _ h => h) (.tmp 12) rfl rfl (rfl) (fun w hb2 => N5.mod hb2 (by simp; omega)) ?_
            try simp only [Act.put, List.setIfInBounds_toArray, List.set_cons_zero, List.set_cons_succ]
            refine wpH_call 5 (oi := { dst := some 67, op := Op.call { callee := Callee.value (Operand.func 36), args := #[Operand.tmp 66], argTypes := #[27] }, type := 27, pos := "store.go:90", after := #[{ on := 4, ground := Ground.data }], guard := none }) rfl (by kernel_rfl) (by rfl) (q4 _ (Below.mod hb5 hS hs5 (by simp; omega))) ?_ ?_
            · (go_simp; try rfl)
            rintro e w' ⟨v7, rfl, hvr, hbx⟩
            refine ⟨_, rfl, hS.trans (Mod.of_below hbx), ?_⟩
            replace hS := hS.trans (Mod.of_below hbx)
            try simp only [Act.put, List.setIfInBounds_toArray, List.set_cons_zero, List.set_cons_succ]
            refine wpH_op 6 (oi := { dst := none, op := Op.mapUpdate 75 (Operand.tmp 62) (Operand.tmp 65) (Operand.tmp 67), type := 0, pos := "store.go:90", after := #[{ on := 0, ground := Ground.data }, { on := 3, ground := Ground.data }, { on := 5, ground := Ground.data }, { on := 5, ground := Ground.chain }, { on := 0, ground := Ground.phase }, { on := 1, ground := Ground.phase }, { on := 2, ground := Ground.phase }, { on := 3, ground := Ground.phase }, { on := 4, ground := Ground.phase }, { on := 5, ground := Ground.phase }], guard := none }) rfl (by kernel_rfl) (by rfl) ?_
            have hM6 := hM5.drew.keep hbx
            have hS6 := hS5.drew.keep hbx
            obtain ⟨es6, c6, hblk⟩ := hM6.block
            refine wp_mapT (.tmp 62) (.tmp 65) (.tmp 67) rfl rfl hM6 (by omega) a1 l3 rfl rfl (hvr.low (show base ≤ w4.heap.size from by omega)) ?_
            rintro w7 hM7 hg7
            have hS7 := hS6.grown hblk hg7
            have m7 : Mod [m'] _ w7 := hS.trans (grown_mod hg7)
            refine ⟨m7, ?_⟩
            try simp only [Act.put, List.setIfInBounds_toArray, List.set_cons_zero, List.set_cons_succ]
            refine wpAnyH_done (by kernel_rfl) ?_ _
            have hb7 := Below.mod hb5 m7 hs5 (by simp; omega)
            clear hM6 hS6 hblk hg7 hbx hS q4 hM5 hS5 N5 hb5
            go_wp2_with fail
            exact ⟨⟨i + 1, putK Ti a1 ⟨⟨a1, a2, a3, lb, pa, st, rc, tx, me, ne, K⟩, L, ta⟩, by omega, by go_num, hM7, HA2, by have := putK_len Ti a1 ⟨⟨a1, a2, a3, lb, pa, st, rc, tx, me, ne, K⟩, L, ta⟩; omega, hS7, hb7⟩, by simp [intOf]; omega⟩
        · have hil : i = l.length := by omega
          subst hil
          have HY : Hid (addsT l T = some Ti) := Lib.hid (by rw [HA.out, List.drop_length]; rfl)
          have hMo := HTM.out.keep hbr
          have hBo := HB0.out.keep hbr
          have hDo := HD.out.keep hbr
          have hJo := HJ.out.keep hbr
          have hKo := HK.out.keep hbr
          have hbs := HBASE.out
          have hsr := hbr.size
          have hml := hMr.lt
          have hJ : m ≠ p ∧ m ≠ j := by
            obtain ⟨es, c, hbl⟩ := hMo.block
            obtain ⟨vx, _, hx2⟩ := hDo.row
            exact ⟨hx2.notmap rfl hbl, hJo.notmap rfl hbl⟩
          clear hi hlt HA
          by_cases hnl : l = []
          · subst hnl
            obtain rfl : BT = [] := hBT.symm
            have q5 := twrite_nil q sa sc wr
            have B6 : Blk (wr.setCell ⟨q, 0, none⟩ (.map (some m'))) q #[.map (some m'), .int .i64 (span), .pointer (some ⟨j, 0, none⟩)] := by simpa using hBo.set 0 (.map (some m'))
            have m6 := (Mod.refl [q] wr).setCell (p := ⟨q, 0, none⟩) (.inl (by simp)) (.map (some m'))
            have hM6 := hMr.modl m6 (by simp; omega) (by simp; omega)
            have hJ6 := hJo.mod m6 (by simp; omega)
            have hD6 : DkV (wr.setCell ⟨q, 0, none⟩ (.map (some m'))) av p d := by
              obtain ⟨vx, hx1, hx2⟩ := hDo.row
              exact ⟨hDo.lt, vx, hx1.mod m6 hqa, hx2.mod m6 (by simp; omega)⟩
            have hmm := (Mod.of_below (l := [p, j, q]) hbr).trans (m6.sub (by simp))
            obtain ⟨b1, b2, b3⟩ := id hBo
            clear hMr hSr hDo hJo hKo hMo m6
            go_wp2_with fail
            refine q5.mono ?_
            rintro e w6 ⟨rfl, rfl⟩
            go_wp2_with fail
            go_ret
            rw [addD_none HY.out]
            exact ⟨m', rfl, B6, hM6, hD6, hJ6, hmm⟩
          · have hBTn : BT ≠ [] := by rw [← hBT]; unfold batchT; simpa using hnl
            have q5 := twrite_any av p j q (.map (some m)) span d (.slice sa BT.length sc) BT hBTn (by rw [HBL.out]; exact hn) HM.out hf hrm hsl wr hKo hDo hJo hpj hja (fun x hx => Nat.lt_of_lt_of_le (HAV.out x hx) hsr) hBo hSr.ss
            have HYES := Lib.hid (addD_yes (d := d) HF.out HY.out hnl)
            have HNO := Lib.hid (addD_no (d := d) HF.out HY.out hnl)
            rw [hBT] at HYES HNO
            generalize writeD d BT = R at *
            obtain ⟨d2, c⟩ := R
            simp only at q5 HYES HNO
            clear hDo hJo hKo
            go_wp2_with fail
            refine q5.mono ?_
            rintro e w6 ⟨rfl, hD6, hJ6, m6⟩
            have B6 := hBo.mod m6 (by simp; omega)
            have hM6 := hMr.modl m6 (by simp; omega) (by simp; omega)
            have hMo6 := hMo.modl m6 (by simp; omega) (by simp; exact ⟨hJ.1, hJ.2⟩)
            have hmm := (Mod.of_below (l := [p, j, q]) hbr).trans (m6.sub (by simp))
            obtain ⟨b1, b2, b3⟩ := id B6
            clear hMr hSr hBo hMo m6 q5
            by_cases hc : c = 0
            · subst hc
              have HR := HYES.out rfl
              have B7 : Blk (w6.setCell ⟨q, 0, none⟩ (.map (some m'))) q #[.map (some m'), .int .i64 (span), .pointer (some ⟨j, 0, none⟩)] := by simpa using B6.set 0 (.map (some m'))
              have m7 := (Mod.refl [q] w6).setCell (p := ⟨q, 0, none⟩) (.inl (by simp)) (.map (some m'))
              have hM7 := hM6.modl m7 (by simp; omega) (by simp; omega)
              have hJ7 := hJ6.mod m7 (by simp; omega)
              have hD7 : DkV (w6.setCell ⟨q, 0, none⟩ (.map (some m'))) av p d2 := by
                obtain ⟨vx, hx1, hx2⟩ := hD6.row
                exact ⟨hD6.lt, vx, hx1.mod m7 hqa, hx2.mod m7 (by simp; omega)⟩
              have hmm7 := hmm.trans (m7.sub (by simp))
              clear hD6 hJ6 hM6 m7
              go_wp2_with fail
              go_ret
              rw [HR]
              exact ⟨m', rfl, B7, hM7, hD7, hJ7, hmm7⟩
            · have HR := HNO.out hc
              have hc1 : (c != 0) = true := by simpa using hc
              have hc2 : (c == 0) = false := by simpa using hc
              go_wp2_with fail
              all_goals (go_ret; rw [HR]; exact ⟨m, rfl, B6, hMo6, hD6, hJ6, hmm⟩)
end Go.Proofs.YtaedgfnfkacimaaDoor
