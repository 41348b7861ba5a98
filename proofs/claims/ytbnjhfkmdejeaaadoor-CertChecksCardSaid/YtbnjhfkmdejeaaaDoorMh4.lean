/- Checks. -/
import Derived.Test.YtbnjhfkmdejeaaaDoorMg17
import Derived.Test.YtbnjhfkmdejeaaaDoorMh2
import Derived.Test.YtbnjhfkmdejeaaaDoorMh3
set_option linter.unnecessarySimpa false

/- The walk of CertChecks. -/
set_option linter.unusedSimpArgs false
set_option linter.unusedVariables false
namespace Go.Proofs.YtbnjhfkmdejeaaaDoor
open Go.RowKit Pl

/-- The blocks and values that it comes to. -/
structure BunI where
  p : Nat
  g : Nat
  c : Nat
  y0 : Value
  y : Value
  b : Nat
/-- What has been made so far, in whatever order: a cell for a certificate, a lent list, an own list of members. -/
structure Bun (base : Nat) (ns : List Bs) (w5 : World) (z : Array Value) (p : Option Nat) (u : Option (Nat × Nat)) (y : Option (Value × Nat × List (Bs × Int))) (w : World) : Prop where
  below : Below base w5 w
  pc : ∀ k, p = some k → base ≤ k ∧ Blk w k z
  uc : ∀ g c, u = some (g, c) → SRow w base (.slice (some ⟨g, 0, none⟩) (ns.length + 1) c) (ns ++ [beh]) ∧ g < w.heap.size
  yc : ∀ v b m, y = some (v, b, m) → MRow w base v m ∧ v.ownBlock = some b ∧ b < w.heap.size
  pu : ∀ k g c, p = some k → u = some (g, c) → k ≠ g
  py : ∀ k v b m, p = some k → y = some (v, b, m) → k ≠ b
  uy : ∀ g c v b m, u = some (g, c) → y = some (v, b, m) → g ≠ b
section
variable {base : Nat} {ns : List Bs} {w5 w w' : World} {z : Array Value} {p : Option Nat} {u : Option (Nat × Nat)} {y : Option (Value × Nat × List (Bs × Int))}
theorem Bun.start (hb : Below base w5 w) : Bun base ns w5 z none none none w := ⟨hb, by simp, by simp, by simp, by simp, by simp, by simp⟩
theorem Bun.move (h : Bun base ns w5 z p u y w) (hs : w.heap.size ≤ w'.heap.size) (hb : Below base w5 w') (hk : ∀ k, (p = some k ∨ (∃ c, u = some (k, c)) ∨ (∃ v m, y = some (v, k, m))) → w'.heap[k]? = w.heap[k]?) : Bun base ns w5 z p u y w' := by
  refine ⟨hb, fun k hp => ⟨(h.pc k hp).1, (h.pc k hp).2.of_block (hk k (.inl hp)) hs⟩, fun g c hu => ?_, fun v b m hy => ?_, h.pu, h.py, h.uy⟩
  · obtain ⟨h1, h2⟩ := h.uc g c hu
    refine ⟨h1.kept (fun k e => ?_), by omega⟩
    cases e
    exact hk g (.inr (.inl ⟨c, hu⟩))
  · obtain ⟨h1, h2, h3⟩ := h.yc v b m hy
    refine ⟨h1.kept (fun k e => ?_), h2, by omega⟩
    rw [h2] at e
    cases e
    exact hk b (.inr (.inr ⟨v, m, hy⟩))
theorem Bun.at_lt (h : Bun base ns w5 z p u y w) (k : Nat) (hk : p = some k ∨ (∃ c, u = some (k, c)) ∨ (∃ v m, y = some (v, k, m))) : k < w.heap.size := by
  rcases hk with hk | ⟨c, hk⟩ | ⟨v, m, hk⟩
  · exact (h.pc k hk).2.lt
  · exact (h.uc k c hk).2
  · exact (h.yc v k m hk).2.2
theorem Bun.bmove (h : Bun base ns w5 z p u y w) (hbs : base ≤ w.heap.size) (hb : Below w.heap.size w w') : Bun base ns w5 z p u y w' :=
  h.move hb.size (h.below.trans (hb.mono hbs)) (fun k hk => hb.block k (h.at_lt k hk))
theorem Bun.cell {z' : Array Value} {k : Nat} (h : Bun base ns w5 z none u y w) (hbs : base ≤ w.heap.size) (hk : w.heap.size ≤ k) (hK : Blk w' k z') (hb : Below w.heap.size w w') : Bun base ns w5 z' (some k) u y w' := by
  have h1 := h.bmove hbs hb
  refine ⟨h1.below, fun k' e => by cases e; exact ⟨by omega, hK⟩, h1.uc, h1.yc, fun k' g c e hu => ?_, fun k' v b m e hy => ?_, h1.uy⟩
  · cases e; have := (h.uc g c hu).2; omega
  · cases e; have := (h.yc v b m hy).2.2; omega
theorem Bun.build (h : Bun base ns w5 z p u none w) (hbs : base ≤ w.heap.size) : Bun base ns w5 z p u (some (.slice (some ⟨w.heap.size, 0, none⟩) 0 0, w.heap.size, [])) (w.alloc (.cells #[] 77)) := by
  have h1 := h.bmove hbs (Below.allocS (Below.refl _ _) (.cells #[] 77))
  refine ⟨h1.below, h1.pc, h1.uc, fun v b m e => ?_, h1.pu, fun k v b m hp e => ?_, fun g c v b m hu e => ?_⟩
  · cases e; exact ⟨⟨rfl, .inr ⟨w.heap.size, 0, #[], rfl, hbs, by simp [World.alloc, -World.alloc_eq], Nat.le_refl _, by unfold maxLen; omega, rfl, rfl⟩⟩, rfl, by simp⟩
  · cases e; have := (h.pc k hp).2.lt; omega
  · cases e; have := (h.uc g c hu).2; omega
theorem Bun.lend (h : Bun base ns w5 z p none y w) (hbs : base ≤ w.heap.size) (hb : Below w.heap.size w w') {g c : Nat} (hs : SRow w' w.heap.size (.slice (some ⟨g, 0, none⟩) (ns.length + 1) c) (ns ++ [beh])) : Bun base ns w5 z p (some (g, c)) y w' := by
  have h1 := h.bmove hbs hb
  have hg := hs.own g rfl
  have hg2 := SRow.lt hs g rfl
  refine ⟨h1.below, h1.pc, fun g' c' e => ?_, h1.yc, fun k g' c' hp e => ?_, h1.py, fun g' c' v b m e hy => ?_⟩
  · cases e; exact ⟨hs.low hbs, hg2⟩
  · cases e; have := (h.pc k hp).2.lt; omega
  · cases e; have := (h.yc v b m hy).2.2; omega
theorem Bun.store {k : Nat} {x0 x1 y0 y1 : Value} (h : Bun base ns w5 #[x0, x1] (some k) u y w) : Bun base ns w5 #[y0, y1] (some k) u y ((w.setCell ⟨k, 0, none⟩ y0).setCell ⟨k, 1, none⟩ y1) := by
  obtain ⟨hk, hB⟩ := h.pc k rfl
  have hh : ∀ j, j ≠ k → ((w.setCell ⟨k, 0, none⟩ y0).setCell ⟨k, 1, none⟩ y1).heap[j]? = w.heap[j]? := fun j hj => (Below.heap_setCell _ _ _ _ hj).trans (Below.heap_setCell _ _ _ _ hj)
  have hs : ((w.setCell ⟨k, 0, none⟩ y0).setCell ⟨k, 1, none⟩ y1).heap.size = w.heap.size := by simp [World.setCell]
  refine ⟨(h.below.setCell (p := ⟨k, 0, none⟩) hk y0).setCell (p := ⟨k, 1, none⟩) hk y1, fun j e => ?_, fun g c hu => ?_, fun v b m hy => ?_, h.pu, h.py, h.uy⟩
  · cases e
    exact ⟨hk, by simpa using (hB.set 0 y0).set 1 y1⟩
  · obtain ⟨h1, h2⟩ := h.uc g c hu
    refine ⟨h1.kept (fun j e => ?_), by rw [hs]; exact h2⟩
    cases e
    exact hh g (Ne.symm (h.pu k g c rfl hu))
  · obtain ⟨h1, h2, h3⟩ := h.yc v b m hy
    refine ⟨h1.kept (fun j e => ?_), h2, by rw [hs]; exact h3⟩
    rw [h2] at e
    cases e
    exact hh b (Ne.symm (h.py k v b m rfl hy))
theorem Bun.app {v v' : Value} {b : Nat} {m l : List (Bs × Int)} (h : Bun base ns w5 z p u (some (v, b, m)) w) (hbs : base ≤ w.heap.size) (hr : MRow w' base v' l) (hg : w.grownBy w' v.ownBlock) (ho : v'.ownBlock = v.ownBlock ∨ v'.ownBlock = some w.heap.size) : ∃ b', Bun base ns w5 z p u (some (v', b', l)) w' := by
  obtain ⟨r1, r2, r3⟩ := h.yc v b m rfl
  have hbb : base ≤ b := r1.own b r2
  have h0 : Bun base ns w5 z p u none w := ⟨h.below, h.pc, h.uc, by simp, h.pu, by simp, by simp⟩
  have h1 := h0.move hg.size (h.below.grown hg hbs (fun k e => by rw [r2] at e; cases e; exact hbb)) (fun k hk => by
    refine hg.block k (h0.at_lt k hk) ?_
    rw [r2]
    intro e
    cases e
    rcases hk with hk | ⟨c, hk⟩ | ⟨_, _, hk⟩
    · exact h.py _ v _ m hk rfl rfl
    · exact h.uy _ c v _ m hk rfl rfl
    · cases hk)
  have hnew : ∃ b', v'.ownBlock = some b' ∧ (b' = b ∨ b' = w.heap.size) := by
    rcases ho with ho | ho
    · exact ⟨b, by rw [ho, r2], .inl rfl⟩
    · exact ⟨_, ho, .inr rfl⟩
  obtain ⟨b', e1, e2⟩ := hnew
  have hlt : b' < w'.heap.size := by
    rcases hr.cells with ⟨rfl, _⟩ | ⟨g, cap, rfl, _, hg', _⟩
    · cases e1
    · cases e1; exact hg'
  refine ⟨b', h1.below, h1.pc, h1.uc, fun v2 b2 m2 e => ?_, h1.pu, fun k v2 b2 m2 hp e => ?_, fun g c v2 b2 m2 hu e => ?_⟩
  · cases e; exact ⟨hr, e1, hlt⟩
  · cases e
    have q := (h.pc k hp).2.lt
    rcases e2 with rfl | rfl
    · exact h.py k v _ m hp rfl
    · omega
  · cases e
    have q := (h.uc g c hu).2
    rcases e2 with rfl | rfl
    · exact h.uy g c v _ m hu rfl
    · omega
end
section
variable {o : Oper} {a : Act} {w : World} {Q : Exit → Act → World → Prop}
/-- append(v, x...) of members, v own and empty, x any: where the new slice lies, too. -/
theorem wp_appMA {K : Act → World → Prop} (s x : Operand)
    (ho : o.op = .call { callee := .builtin .append, args := #[s, x], argTypes := #[22, 22] })
    (base : Nat) (q : Nat) (hs : a.eval s = .slice (some ⟨q, 0, none⟩) 0 0) (hown : MRow w base (.slice (some ⟨q, 0, none⟩) 0 0) [])
    (u : Value) (news : List (Bs × Int)) (hx : a.eval x = u) (hsrc : MS w u news) (hlen : news.length ≤ 1099511627000) (hbase : base ≤ w.heap.size)
    (h : ∀ v' w', MRow w' base v' news → w.grownBy w' (some q) → (v'.ownBlock = some q ∨ v'.ownBlock = some w.heap.size) → K (a.put o.dst v') w') : o.wp Tryd.prog a w K Q := by
  obtain ⟨au, cu, hu, h1, h2, h3⟩ := hsrc
  obtain ⟨i0, hi, hz0, hz1, hz2⟩ := info_parts infoMem
  by_cases hn : news = []
  · subst hn
    have hS : Src Tryd.prog i0.size 22 u 0 [] w := by
      subst hu
      cases au with
      | none => exact Src.ofNil w Tryd.underlying22 cu
      | some ad => exact Src.ofSlice w Tryd.underlying22 ad 0 cu [] (by simp) (fun j u h => by simp at h) (fun _ h => by cases h)
    have hr := run_append_nothing (P := Tryd.prog) w 22 22 o.type 77 i0 Tryd.underlying22 hi (some ⟨q, 0, none⟩) 0 0 (Nat.le_refl _) u hS
    unfold Oper.wp execOp
    simp only [ho, resolve, invoke, builtin, Sem.run_bind, Sem.run_pure, Result.andThen_ok, List.map_toArray, List.map_cons, List.map_nil, hs, hx, hr]
    exact h _ w hown ⟨rfl, rfl, rfl, Nat.le_refl _, fun _ _ _ => rfl⟩ (.inl rfl)
  · obtain ⟨g, off, rfl, hg, hc⟩ := h3 hn
    obtain ⟨v', w', hr, k2, k3, _, k5⟩ := run_append_own_at (P := Tryd.prog) w base 22 o.type 77 i0 (.agg #[.string ⟨#[]⟩, .int .i64 0]) 2 24 Tryd.underlying22 hi hz0 hz1 hz2 rfl (by decide) (.slice (some ⟨q, 0, none⟩) 0 0) 0 [] hown ⟨g, off, none⟩ news.length cu (mv news) (by rw [mv_len]) (msrc_news hc) (mone news) (by unfold maxLen; omega) (by omega) hbase
    unfold Oper.wp execOp
    simp only [ho, resolve, invoke, builtin, Sem.run_bind, Sem.run_pure, Result.andThen_ok, List.map_toArray, List.map_cons, List.map_nil, hs, hx, hu, hr]
    refine h v' w' ?_ k3 k5
    unfold MRow
    simpa using k2
end
theorem lend_at (v : Value) (l : List Bs) (hl : l.length ≤ 1000000) (w : World) (hv : SS w v l) :
    Calls Tryd.prog 13 #[v] w fun e w' => ∃ g cap, e = .returned (.slice (some ⟨g, 0, none⟩) l.length cap) ∧ SRow w' w.heap.size (.slice (some ⟨g, 0, none⟩) (l.length + 1) cap) (l ++ [beh]) ∧ Below w.heap.size w w' :=
  (lend_any v l hl w hv).mono fun e w' ⟨u, he, ⟨g, cap, hu, hr⟩, hb⟩ => ⟨g, cap, by rw [he, hu], hr, hb⟩
theorem bun_step {base : Nat} {ns : List Bs} {w5 w' : World} {z : Array Value} {p : Option Nat} {u : Option (Nat × Nat)} {y : Option (Value × Nat × List (Bs × Int))} {K : Prop} (h : Bun base ns w5 z p u y w') (k : Bun base ns w5 z p u y w' → Below base w5 w' → K) : Below base w5 w' ∧ K := ⟨h.below, k h h.below⟩
theorem chkB_perm {M L : List Sg} (h : M.Perm L) (m : Bs) (ns : List Bs) : chkB M m ns = chkB L m ns := by
  unfold chkB
  congr 1
  funext n
  exact isIn_perm h n m
theorem selN_perm {M L : List Sg} (h : M.Perm L) (m : Bs) (l : List (Bs × Int)) : selN M m l = selN L m l := by
  unfold selN
  congr 1
  congr 1
  funext x
  exact isIn_perm h x.1 m
theorem goodC_perm {M L : List Sg} (h : M.Perm L) (tag : Int) (l : List (Bs × Int)) (d : Bs) (ns : List Bs) : goodC tag l d ns M = goodC tag l d ns L := by
  unfold goodC goodIn
  rw [chkB_perm h]
theorem gathC_perm {M L : List Sg} (h : M.Perm L) (tag : Int) (l : List (Bs × Int)) (s : Bs) : gathC tag l s M = gathC tag l s L := by
  unfold gathC gathIn
  rw [selN_perm h]

set_option maxRecDepth 100000 in
set_option maxHeartbeats 4000000 in
theorem checks_any (mv sv cv : Value) (tag : Int) (l : List (Bs × Int)) (st : List Stp) (d sum : Bs) (ns : List Bs) (hd : d.length ≤ maxLen) (hsum : sum.length ≤ maxLen) (w : World) (hm : MS w mv l) (hs : TS w sv st) (hss : TShort st) (hc : CV w cv d ns) (hk : KT w) :
    Calls Tryd.prog 3 #[.agg #[.int .i64 (tag), mv, sv], cv, .string ⟨List.toArray (sum)⟩] w fun e w' => e = .returned (.bool true) ∧ Below w.heap.size w w' := by
  obtain ⟨u, rfl, hu⟩ := hc
  obtain ⟨ua, uc, rfl⟩ := hu.form
  obtain ⟨ma, mc, rfl⟩ := hm.form
  obtain ⟨sa, sc, rfl⟩ := hs.form
  have hlu := hu.small
  have hlm := hm.small
  have hd' : d.length ≤ 9223372036854775807 := by unfold maxLen at hd; omega
  have hsum' : sum.length ≤ 9223372036854775807 := by unfold maxLen at hsum; omega
  have hb0 : Below w.heap.size w ((w.alloc (.cells #[.int .i64 (tag), .slice ma l.length mc, .slice sa st.length sc] 25)).alloc (.cells #[.string ⟨List.toArray (d)⟩, .slice ua ns.length uc] 28)) := Below.allocS (Below.allocS (Below.refl _ _) _) _
  have B0 : Blk ((w.alloc (.cells #[.int .i64 (tag), .slice ma l.length mc, .slice sa st.length sc] 25)).alloc (.cells #[.string ⟨List.toArray (d)⟩, .slice ua ns.length uc] 28)) w.heap.size #[.int .i64 (tag), .slice ma l.length mc, .slice sa st.length sc] := (Blk.new _ _ _).alloc _
  have C0 : Blk ((w.alloc (.cells #[.int .i64 (tag), .slice ma l.length mc, .slice sa st.length sc] 25)).alloc (.cells #[.string ⟨List.toArray (d)⟩, .slice ua ns.length uc] 28)) (w.heap.size + 1) #[.string ⟨List.toArray (d)⟩, .slice ua ns.length uc] := Blk.new' (by simp)
  have hW0 := works7_any _ (hk.keep hb0)
  have hfew := few_any _ ns 50 100 _ (hu.keep hb0)
  have HM := Lib.hid hm
  have HU := Lib.hid hu
  have HS := Lib.hid hs
  have HD := Lib.hid hd
  clear hm hu hs hd
  obtain ⟨b1, b2, b3⟩ := id B0
  obtain ⟨c1, c2, c3⟩ := id C0
  generalize hf : fewP ns 50 100 = f at *
  have HF := Lib.hid hf
  clear hf
  go_enter Tryd.func3, Tryd.ntmps3
  by_cases hset : 1000 < l.length
  · have d1 : decide ((1000 : Int) < (l.length : Int)) = true := by simp; omega
    clear hfew
    go_wp2_with fail
    refine hW0.mono ?_
    rintro e w1 ⟨rfl, hb⟩
    go_wp2_with fail
    all_goals (go_ret; exact ⟨rfl, hb0.trans (hb.mono hb0.size)⟩)
  have d1 : decide ((1000 : Int) < (l.length : Int)) = false := by simp; omega
  clear hW0
  go_wp2_with fail
  refine hfew.mono ?_
  rintro e w1 ⟨rfl, hb⟩
  have hb1 := hb0.trans (hb.mono hb0.size)
  have B1 := B0.keep hb
  have C1 := C0.keep hb
  clear hfew hb hb0 B0 C0 b1 b2 b3 c1 c2 c3
  obtain ⟨b1, b2, b3⟩ := id B1
  obtain ⟨c1, c2, c3⟩ := id C1
  have hW := works7_any _ (hk.keep hb1)
  cases f
  · go_wp2_with fail
    refine hW.mono ?_
    rintro e w2 ⟨rfl, hb⟩
    go_wp2_with fail
    all_goals (go_ret; exact ⟨rfl, hb1.trans (hb.mono hb1.size)⟩)
  by_cases hdl : 100 < d.length
  · have d2 : decide ((100 : Int) < (d.length : Int)) = true := by simp; omega
    go_wp2_with fail
    refine hW.mono ?_
    rintro e w2 ⟨rfl, hb⟩
    go_wp2_with fail
    all_goals (go_ret; exact ⟨rfl, hb1.trans (hb.mono hb1.size)⟩)
  have d2 : decide ((100 : Int) < (d.length : Int)) = false := by simp; omega
  by_cases hsl : 100 < sum.length
  · have d3 : decide ((100 : Int) < (sum.length : Int)) = true := by simp; omega
    go_wp2_with fail
    refine hW.mono ?_
    rintro e w2 ⟨rfl, hb⟩
    go_wp2_with fail
    all_goals (go_ret; exact ⟨rfl, hb1.trans (hb.mono hb1.size)⟩)
  have d3 : decide ((100 : Int) < (sum.length : Int)) = false := by simp; omega
  clear hW
  have hnl : ns.length ≤ 50 := by have := (fewP_parts HF.out).1; omega
  have hT1 := table_any _ st hss _ (HS.out.keep hb1)
  go_wp2_with fail
  refine hT1.mono ?_
  rintro e w2 ⟨tp, x, M, rfl, hT2, hGM, hP, hSo, hb⟩
  have hMl : M.length ≤ 30 := by rw [hP.length_eq]; have := stepsT_len (st.take 30); rw [List.length_take] at this; omega
  have hb2 := hb1.trans (hb.mono hb1.size)
  have B2 := B1.keep hb
  have C2 := C1.keep hb
  obtain ⟨xa, xc, rfl⟩ := hGM.form
  obtain ⟨base, hbase⟩ : ∃ base, base = w1.heap.size := ⟨_, rfl⟩
  rw [← hbase] at hT2 hGM hb
  clear hT1 hb hb1 hbase B1 C1 b1 b2 b3 c1 c2 c3
  generalize stepsT (st.take 30) = L at *
  have HP := Lib.hid hP
  have HSo := Lib.hid hSo
  have HGM := Lib.hid hGM
  clear hP hSo hGM
  obtain ⟨b1, b2, b3⟩ := id B2
  obtain ⟨c1, c2, c3⟩ := id C2
  go_wp2_with fail
  refine wp_region_ex (ι := BunI)
    (fun i a => ((((((((((((a.put (some 49) (.pointer (some ⟨w.heap.size + 1, 0, none⟩))).put (some 50) (.string ⟨List.toArray (d)⟩)).put (some 51) (.pointer (some ⟨w.heap.size + 1, 1, none⟩))).put (some 52) (.slice ua ns.length uc)).put (some 53) (.slice (some ⟨i.g, 0, none⟩) ns.length i.c)).put (some 54) (.agg #[.string ⟨List.toArray (d)⟩, .slice (some ⟨i.g, 0, none⟩) ns.length i.c])).put (some 55) i.y0).put (some 56) (.pointer (some ⟨w.heap.size, 1, none⟩))).put (some 57) (.slice ma l.length mc)).put (some 58) i.y).put (some 9) (.pointer (some ⟨i.p, 0, none⟩))).put (some 10) i.y))
    (fun i w' => Bun w2.heap.size ns w2 #[.string ⟨List.toArray (d)⟩, .slice (some ⟨i.g, 0, none⟩) ns.length i.c] (some i.p) (some (i.g, i.c)) (some (i.y, i.b, l)) w') ?_ ?_
  · skip
    refine wpH_startB (w2.heap.size) (by kernel_rfl) (fun hS => ?_)
    have hB := Bun.start (ns := ns) (z := #[.string ⟨List.toArray ([])⟩, .slice none 0 0]) hS
    (refine wpH_pure 0 ?_ (oi := { dst := some 49, op := Op.fieldAddr 28 (Operand.tmp 4) 0, type := 0, pos := "law.go:49", after := #[], guard := none }) rfl (by kernel_rfl) (by kernel_rfl) (by kernel_rfl) (by rfl) hS (fun _ _ _ h => h) ?_ ?_; rotate_left; focus (intro w; go_simp; try with_reducible rfl))
    try simp only [Act.put, List.setIfInBounds_toArray, List.set_cons_zero, List.set_cons_succ]
    refine wpH_load 1 (.string ⟨List.toArray (d)⟩) (oi := { dst := some 50, op := Op.load 9 (Operand.tmp 49), type := 9, pos := "law.go:49", after := #[{ on := 0, ground := Ground.data }], guard := none }) rfl (by kernel_rfl) (by kernel_rfl) (by kernel_rfl) (by rfl) hS (fun _ _ _ h => h) (fun w hb3 => (by have c := (C2.keep hb3).cell 0; go_simp; try rfl)) ?_
    try simp only [Act.put, List.setIfInBounds_toArray, List.set_cons_zero, List.set_cons_succ]
    (refine wpH_pure 2 ?_ (oi := { dst := some 51, op := Op.fieldAddr 28 (Operand.tmp 4) 1, type := 0, pos := "law.go:49", after := #[], guard := none }) rfl (by kernel_rfl) (by kernel_rfl) (by kernel_rfl) (by rfl) hS (fun _ _ _ h => h) ?_ ?_; rotate_left; focus (intro w; go_simp; try with_reducible rfl))
    try simp only [Act.put, List.setIfInBounds_toArray, List.set_cons_zero, List.set_cons_succ]
    refine wpH_load 3 (.slice ua ns.length uc) (oi := { dst := some 52, op := Op.load 26 (Operand.tmp 51), type := 26, pos := "law.go:49", after := #[{ on := 2, ground := Ground.data }], guard := none }) rfl (by kernel_rfl) (by kernel_rfl) (by kernel_rfl) (by rfl) hS (fun _ _ _ h => h) (fun w hb3 => (by have c := (C2.keep hb3).cell 1; go_simp; try rfl)) ?_
    try simp only [Act.put, List.setIfInBounds_toArray, List.set_cons_zero, List.set_cons_succ]
    (refine wpH_pure 7 ?_ (oi := { dst := some 56, op := Op.fieldAddr 25 (Operand.tmp 3) 1, type := 0, pos := "law.go:49", after := #[], guard := none }) rfl (by kernel_rfl) (by kernel_rfl) (by kernel_rfl) (by rfl) hS (fun _ _ _ h => h) ?_ ?_; rotate_left; focus (intro w; go_simp; try with_reducible rfl))
    try simp only [Act.put, List.setIfInBounds_toArray, List.set_cons_zero, List.set_cons_succ]
    refine wpH_load 8 (.slice ma l.length mc) (oi := { dst := some 57, op := Op.load 22 (Operand.tmp 56), type := 22, pos := "law.go:49", after := #[{ on := 7, ground := Ground.data }], guard := none }) rfl (by kernel_rfl) (by kernel_rfl) (by kernel_rfl) (by rfl) hS (fun _ _ _ h => h) (fun w hb3 => (by have c := (B2.keep hb3).cell 1; go_simp; try rfl)) ?_
    try simp only [Act.put, List.setIfInBounds_toArray, List.set_cons_zero, List.set_cons_succ]
    refine wpAnyH_all (rs := [4, 6, 10]) (by kernel_rfl) (by simp) (fun jj hjj => ?_)
    simp only [List.mem_cons, List.not_mem_nil, or_false] at hjj
    rcases hjj with rfl | rfl | rfl
    refine wpO_call (oi := { dst := some 53, op := Op.call { callee := Callee.value (Operand.func 13), args := #[Operand.tmp 52], argTypes := #[26] }, type := 26, pos := "law.go:49", after := #[{ on := 3, ground := Ground.data }], guard := none }) rfl (by rfl) (lend_at _ ns (by omega) _ (HU.out.keep (hb2.trans (hS.mono hb2.size)))) ?_ ?_
    · (go_simp; try rfl)
    rintro e w' ⟨g, cap, rfl, hL, hbx⟩
    refine ⟨_, rfl, hS.trans (hbx.mono hS.size), ?_⟩
    replace hS := hS.trans (hbx.mono hS.size)
    replace hB := hB.lend hB.below.size hbx hL
    try simp only [Act.put, List.setIfInBounds_toArray, List.set_cons_zero, List.set_cons_succ]
    (refine wpH_pure 5 ?_ (oi := { dst := some 54, op := Op.build 28 #[(0, Operand.tmp 50), (1, Operand.tmp 53)], type := 28, pos := "law.go:49", after := #[{ on := 1, ground := Ground.data }, { on := 4, ground := Ground.data }], guard := none }) rfl (by kernel_rfl) (by kernel_rfl) (by kernel_rfl) (by rfl) hS (fun _ _ _ h => h) ?_ ?_; rotate_left; focus (intro w; go_simp; try with_reducible rfl))
    try simp only [Act.put, List.setIfInBounds_toArray, List.set_cons_zero, List.set_cons_succ]
    refine wpAnyH_all (rs := [6, 10]) (by kernel_rfl) (by simp) (fun jj hjj => ?_)
    simp only [List.mem_cons, List.not_mem_nil, or_false] at hjj
    rcases hjj with rfl | rfl
    refine wpO_op (oi := { dst := some 55, op := Op.buildSlice 22 0 #[], type := 22, pos := "law.go:49", after := #[], guard := none }) rfl (by rfl) ?_
    unfold Oper.wp
    go_simp
    refine bun_step (hB.build hB.below.size) (fun hB hS => ?_)
    try simp only [Act.put, List.setIfInBounds_toArray, List.set_cons_zero, List.set_cons_succ]
    refine wpAnyH_all (rs := [9, 10]) (by kernel_rfl) (by simp) (fun jj hjj => ?_)
    simp only [List.mem_cons, List.not_mem_nil, or_false] at hjj
    rcases hjj with rfl | rfl
    refine wpO_op (oi := { dst := some 58, op := Op.call { callee := Callee.builtin Builtin.append, args := #[Operand.tmp 55, Operand.tmp 57], argTypes := #[22, 22] }, type := 22, pos := "law.go:49", after := #[{ on := 6, ground := Ground.data }, { on := 8, ground := Ground.data }, { on := 4, ground := Ground.chain }], guard := none }) rfl (by rfl) ?_
    refine wp_appMA (.tmp 55) (.tmp 57) rfl w2.heap.size _ rfl (hB.yc _ _ _ rfl).1 _ l rfl (HM.out.keep (hb2.trans (hB.below.mono hb2.size))) (by omega) hB.below.size (fun v' w' hr hg ho => ?_)
    obtain ⟨bb, hB'⟩ := hB.app hB.below.size hr hg ho
    refine bun_step hB' (fun hB hS => ?_)
    try simp only [Act.put, List.setIfInBounds_toArray, List.set_cons_zero, List.set_cons_succ]
    refine wpH_op 10 (oi := { dst := some 9, op := Op.alloc 28, type := 0, pos := "law.go:49", after := #[], guard := none }) rfl (by kernel_rfl) (by rfl) ?_
    refine wp_allocK 28 rfl #[.string ⟨List.toArray ([])⟩, .slice none 0 0] (fun w => by go_simp; try rfl) (fun k w' hk K9 hbk => ?_)
    refine bun_step (hB.cell hB.below.size hk K9 hbk) (fun hB hS => ?_)
    try simp only [Act.put, List.setIfInBounds_toArray, List.set_cons_zero, List.set_cons_succ]
    refine wpH_op 11 (oi := { dst := none, op := Op.store 28 (Operand.tmp 9) (Operand.tmp 54), type := 0, pos := "law.go:49", after := #[{ on := 10, ground := Ground.data }, { on := 5, ground := Ground.data }, { on := 9, ground := Ground.chain }, { on := 0, ground := Ground.phase }, { on := 1, ground := Ground.phase }, { on := 2, ground := Ground.phase }, { on := 3, ground := Ground.phase }, { on := 4, ground := Ground.phase }, { on := 5, ground := Ground.phase }, { on := 6, ground := Ground.textOnly Departure.lateStores }, { on := 7, ground := Ground.textOnly Departure.lateStores }, { on := 8, ground := Ground.textOnly Departure.lateStores }, { on := 9, ground := Ground.textOnly Departure.lateStoresUnsure }, { on := 10, ground := Ground.phase }], guard := none }) rfl (by kernel_rfl) (by rfl) ?_
    obtain ⟨k1, k2, k3⟩ := id (hB.pc _ rfl).2
    unfold Oper.wp
    go_simp
    refine bun_step hB.store (fun hB hS => ?_)
    try simp only [Act.put, List.setIfInBounds_toArray, List.set_cons_zero, List.set_cons_succ]
    (refine wpH_pure 12 ?_ (oi := { dst := some 10, op := Op.assign (Operand.tmp 58), type := 22, pos := "law.go:49", after := #[{ on := 9, ground := Ground.data }, { on := 11, ground := Ground.chain }, { on := 0, ground := Ground.phase }, { on := 1, ground := Ground.phase }, { on := 2, ground := Ground.phase }, { on := 3, ground := Ground.phase }, { on := 4, ground := Ground.phase }, { on := 5, ground := Ground.phase }, { on := 6, ground := Ground.phase }, { on := 7, ground := Ground.phase }, { on := 8, ground := Ground.phase }, { on := 9, ground := Ground.phase }, { on := 10, ground := Ground.phase }, { on := 11, ground := Ground.phase }], guard := none }) rfl (by kernel_rfl) (by kernel_rfl) (by kernel_rfl) (by rfl) hS (fun _ _ _ h => h) ?_ ?_; rotate_left; focus (intro w; go_simp; try with_reducible rfl))
    try simp only [Act.put, List.setIfInBounds_toArray, List.set_cons_zero, List.set_cons_succ]
    refine wpAnyH_done (by kernel_rfl) ?_ _
    unfold NormQ
    refine ⟨⟨_, _, _, ?_, _, _⟩, ?_, hB⟩
    rotate_left
    (try simp only [Act.put, List.setIfInBounds_toArray, List.set_cons_zero, List.set_cons_succ])
    rfl
    refine wpO_op (oi := { dst := some 9, op := Op.alloc 28, type := 0, pos := "law.go:49", after := #[], guard := none }) rfl (by rfl) ?_
    refine wp_allocK 28 rfl #[.string ⟨List.toArray ([])⟩, .slice none 0 0] (fun w => by go_simp; try rfl) (fun k w' hk K9 hbk => ?_)
    refine bun_step (hB.cell hB.below.size hk K9 hbk) (fun hB hS => ?_)
    try simp only [Act.put, List.setIfInBounds_toArray, List.set_cons_zero, List.set_cons_succ]
    refine wpH_op 9 (oi := { dst := some 58, op := Op.call { callee := Callee.builtin Builtin.append, args := #[Operand.tmp 55, Operand.tmp 57], argTypes := #[22, 22] }, type := 22, pos := "law.go:49", after := #[{ on := 6, ground := Ground.data }, { on := 8, ground := Ground.data }, { on := 4, ground := Ground.chain }], guard := none }) rfl (by kernel_rfl) (by rfl) ?_
    refine wp_appMA (.tmp 55) (.tmp 57) rfl w2.heap.size _ rfl (hB.yc _ _ _ rfl).1 _ l rfl (HM.out.keep (hb2.trans (hB.below.mono hb2.size))) (by omega) hB.below.size (fun v' w' hr hg ho => ?_)
    obtain ⟨bb, hB'⟩ := hB.app hB.below.size hr hg ho
    refine bun_step hB' (fun hB hS => ?_)
    try simp only [Act.put, List.setIfInBounds_toArray, List.set_cons_zero, List.set_cons_succ]
    refine wpH_op 11 (oi := { dst := none, op := Op.store 28 (Operand.tmp 9) (Operand.tmp 54), type := 0, pos := "law.go:49", after := #[{ on := 10, ground := Ground.data }, { on := 5, ground := Ground.data }, { on := 9, ground := Ground.chain }, { on := 0, ground := Ground.phase }, { on := 1, ground := Ground.phase }, { on := 2, ground := Ground.phase }, { on := 3, ground := Ground.phase }, { on := 4, ground := Ground.phase }, { on := 5, ground := Ground.phase }, { on := 6, ground := Ground.textOnly Departure.lateStores }, { on := 7, ground := Ground.textOnly Departure.lateStores }, { on := 8, ground := Ground.textOnly Departure.lateStores }, { on := 9, ground := Ground.textOnly Departure.lateStoresUnsure }, { on := 10, ground := Ground.phase }], guard := none }) rfl (by kernel_rfl) (by rfl) ?_
    obtain ⟨k1, k2, k3⟩ := id (hB.pc _ rfl).2
    unfold Oper.wp
    go_simp
    refine bun_step hB.store (fun hB hS => ?_)
    try simp only [Act.put, List.setIfInBounds_toArray, List.set_cons_zero, List.set_cons_succ]
    (refine wpH_pure 12 ?_ (oi := { dst := some 10, op := Op.assign (Operand.tmp 58), type := 22, pos := "law.go:49", after := #[{ on := 9, ground := Ground.data }, { on := 11, ground := Ground.chain }, { on := 0, ground := Ground.phase }, { on := 1, ground := Ground.phase }, { on := 2, ground := Ground.phase }, { on := 3, ground := Ground.phase }, { on := 4, ground := Ground.phase }, { on := 5, ground := Ground.phase }, { on := 6, ground := Ground.phase }, { on := 7, ground := Ground.phase }, { on := 8, ground := Ground.phase }, { on := 9, ground := Ground.phase }, { on := 10, ground := Ground.phase }, { on := 11, ground := Ground.phase }], guard := none }) rfl (by kernel_rfl) (by kernel_rfl) (by kernel_rfl) (by rfl) hS (fun _ _ _ h => h) ?_ ?_; rotate_left; focus (intro w; go_simp; try with_reducible rfl))
    try simp only [Act.put, List.setIfInBounds_toArray, List.set_cons_zero, List.set_cons_succ]
    refine wpAnyH_done (by kernel_rfl) ?_ _
    unfold NormQ
    refine ⟨⟨_, _, _, ?_, _, _⟩, ?_, hB⟩
    rotate_left
    (try simp only [Act.put, List.setIfInBounds_toArray, List.set_cons_zero, List.set_cons_succ])
    rfl
    refine wpO_op (oi := { dst := some 9, op := Op.alloc 28, type := 0, pos := "law.go:49", after := #[], guard := none }) rfl (by rfl) ?_
    refine wp_allocK 28 rfl #[.string ⟨List.toArray ([])⟩, .slice none 0 0] (fun w => by go_simp; try rfl) (fun k w' hk K9 hbk => ?_)
    refine bun_step (hB.cell hB.below.size hk K9 hbk) (fun hB hS => ?_)
    try simp only [Act.put, List.setIfInBounds_toArray, List.set_cons_zero, List.set_cons_succ]
    refine wpH_op 6 (oi := { dst := some 55, op := Op.buildSlice 22 0 #[], type := 22, pos := "law.go:49", after := #[], guard := none }) rfl (by kernel_rfl) (by rfl) ?_
    unfold Oper.wp
    go_simp
    refine bun_step (hB.build hB.below.size) (fun hB hS => ?_)
    try simp only [Act.put, List.setIfInBounds_toArray, List.set_cons_zero, List.set_cons_succ]
    refine wpH_op 9 (oi := { dst := some 58, op := Op.call { callee := Callee.builtin Builtin.append, args := #[Operand.tmp 55, Operand.tmp 57], argTypes := #[22, 22] }, type := 22, pos := "law.go:49", after := #[{ on := 6, ground := Ground.data }, { on := 8, ground := Ground.data }, { on := 4, ground := Ground.chain }], guard := none }) rfl (by kernel_rfl) (by rfl) ?_
    refine wp_appMA (.tmp 55) (.tmp 57) rfl w2.heap.size _ rfl (hB.yc _ _ _ rfl).1 _ l rfl (HM.out.keep (hb2.trans (hB.below.mono hb2.size))) (by omega) hB.below.size (fun v' w' hr hg ho => ?_)
    obtain ⟨bb, hB'⟩ := hB.app hB.below.size hr hg ho
    refine bun_step hB' (fun hB hS => ?_)
    try simp only [Act.put, List.setIfInBounds_toArray, List.set_cons_zero, List.set_cons_succ]
    refine wpH_op 11 (oi := { dst := none, op := Op.store 28 (Operand.tmp 9) (Operand.tmp 54), type := 0, pos := "law.go:49", after := #[{ on := 10, ground := Ground.data }, { on := 5, ground := Ground.data }, { on := 9, ground := Ground.chain }, { on := 0, ground := Ground.phase }, { on := 1, ground := Ground.phase }, { on := 2, ground := Ground.phase }, { on := 3, ground := Ground.phase }, { on := 4, ground := Ground.phase }, { on := 5, ground := Ground.phase }, { on := 6, ground := Ground.textOnly Departure.lateStores }, { on := 7, ground := Ground.textOnly Departure.lateStores }, { on := 8, ground := Ground.textOnly Departure.lateStores }, { on := 9, ground := Ground.textOnly Departure.lateStoresUnsure }, { on := 10, ground := Ground.phase }], guard := none }) rfl (by kernel_rfl) (by rfl) ?_
    obtain ⟨k1, k2, k3⟩ := id (hB.pc _ rfl).2
    unfold Oper.wp
    go_simp
    refine bun_step hB.store (fun hB hS => ?_)
    try simp only [Act.put, List.setIfInBounds_toArray, List.set_cons_zero, List.set_cons_succ]
    (refine wpH_pure 12 ?_ (oi := { dst := some 10, op := Op.assign (Operand.tmp 58), type := 22, pos := "law.go:49", after := #[{ on := 9, ground := Ground.data }, { on := 11, ground := Ground.chain }, { on := 0, ground := Ground.phase }, { on := 1, ground := Ground.phase }, { on := 2, ground := Ground.phase }, { on := 3, ground := Ground.phase }, { on := 4, ground := Ground.phase }, { on := 5, ground := Ground.phase }, { on := 6, ground := Ground.phase }, { on := 7, ground := Ground.phase }, { on := 8, ground := Ground.phase }, { on := 9, ground := Ground.phase }, { on := 10, ground := Ground.phase }, { on := 11, ground := Ground.phase }], guard := none }) rfl (by kernel_rfl) (by kernel_rfl) (by kernel_rfl) (by rfl) hS (fun _ _ _ h => h) ?_ ?_; rotate_left; focus (intro w; go_simp; try with_reducible rfl))
    try simp only [Act.put, List.setIfInBounds_toArray, List.set_cons_zero, List.set_cons_succ]
    refine wpAnyH_done (by kernel_rfl) ?_ _
    unfold NormQ
    refine ⟨⟨_, _, _, ?_, _, _⟩, ?_, hB⟩
    rotate_left
    (try simp only [Act.put, List.setIfInBounds_toArray, List.set_cons_zero, List.set_cons_succ])
    rfl
    refine wpO_op (oi := { dst := some 55, op := Op.buildSlice 22 0 #[], type := 22, pos := "law.go:49", after := #[], guard := none }) rfl (by rfl) ?_
    unfold Oper.wp
    go_simp
    refine bun_step (hB.build hB.below.size) (fun hB hS => ?_)
    try simp only [Act.put, List.setIfInBounds_toArray, List.set_cons_zero, List.set_cons_succ]
    refine wpAnyH_all (rs := [4, 10]) (by kernel_rfl) (by simp) (fun jj hjj => ?_)
    simp only [List.mem_cons, List.not_mem_nil, or_false] at hjj
    rcases hjj with rfl | rfl
    refine wpO_call (oi := { dst := some 53, op := Op.call { callee := Callee.value (Operand.func 13), args := #[Operand.tmp 52], argTypes := #[26] }, type := 26, pos := "law.go:49", after := #[{ on := 3, ground := Ground.data }], guard := none }) rfl (by rfl) (lend_at _ ns (by omega) _ (HU.out.keep (hb2.trans (hS.mono hb2.size)))) ?_ ?_
    · (go_simp; try rfl)
    rintro e w' ⟨g, cap, rfl, hL, hbx⟩
    refine ⟨_, rfl, hS.trans (hbx.mono hS.size), ?_⟩
    replace hS := hS.trans (hbx.mono hS.size)
    replace hB := hB.lend hB.below.size hbx hL
    try simp only [Act.put, List.setIfInBounds_toArray, List.set_cons_zero, List.set_cons_succ]
    (refine wpH_pure 5 ?_ (oi := { dst := some 54, op := Op.build 28 #[(0, Operand.tmp 50), (1, Operand.tmp 53)], type := 28, pos := "law.go:49", after := #[{ on := 1, ground := Ground.data }, { on := 4, ground := Ground.data }], guard := none }) rfl (by kernel_rfl) (by kernel_rfl) (by kernel_rfl) (by rfl) hS (fun _ _ _ h => h) ?_ ?_; rotate_left; focus (intro w; go_simp; try with_reducible rfl))
    try simp only [Act.put, List.setIfInBounds_toArray, List.set_cons_zero, List.set_cons_succ]
    refine wpAnyH_all (rs := [9, 10]) (by kernel_rfl) (by simp) (fun jj hjj => ?_)
    simp only [List.mem_cons, List.not_mem_nil, or_false] at hjj
    rcases hjj with rfl | rfl
    refine wpO_op (oi := { dst := some 58, op := Op.call { callee := Callee.builtin Builtin.append, args := #[Operand.tmp 55, Operand.tmp 57], argTypes := #[22, 22] }, type := 22, pos := "law.go:49", after := #[{ on := 6, ground := Ground.data }, { on := 8, ground := Ground.data }, { on := 4, ground := Ground.chain }], guard := none }) rfl (by rfl) ?_
    refine wp_appMA (.tmp 55) (.tmp 57) rfl w2.heap.size _ rfl (hB.yc _ _ _ rfl).1 _ l rfl (HM.out.keep (hb2.trans (hB.below.mono hb2.size))) (by omega) hB.below.size (fun v' w' hr hg ho => ?_)
    obtain ⟨bb, hB'⟩ := hB.app hB.below.size hr hg ho
    refine bun_step hB' (fun hB hS => ?_)
    try simp only [Act.put, List.setIfInBounds_toArray, List.set_cons_zero, List.set_cons_succ]
    refine wpH_op 10 (oi := { dst := some 9, op := Op.alloc 28, type := 0, pos := "law.go:49", after := #[], guard := none }) rfl (by kernel_rfl) (by rfl) ?_
    refine wp_allocK 28 rfl #[.string ⟨List.toArray ([])⟩, .slice none 0 0] (fun w => by go_simp; try rfl) (fun k w' hk K9 hbk => ?_)
    refine bun_step (hB.cell hB.below.size hk K9 hbk) (fun hB hS => ?_)
    try simp only [Act.put, List.setIfInBounds_toArray, List.set_cons_zero, List.set_cons_succ]
    refine wpH_op 11 (oi := { dst := none, op := Op.store 28 (Operand.tmp 9) (Operand.tmp 54), type := 0, pos := "law.go:49", after := #[{ on := 10, ground := Ground.data }, { on := 5, ground := Ground.data }, { on := 9, ground := Ground.chain }, { on := 0, ground := Ground.phase }, { on := 1, ground := Ground.phase }, { on := 2, ground := Ground.phase }, { on := 3, ground := Ground.phase }, { on := 4, ground := Ground.phase }, { on := 5, ground := Ground.phase }, { on := 6, ground := Ground.textOnly Departure.lateStores }, { on := 7, ground := Ground.textOnly Departure.lateStores }, { on := 8, ground := Ground.textOnly Departure.lateStores }, { on := 9, ground := Ground.textOnly Departure.lateStoresUnsure }, { on := 10, ground := Ground.phase }], guard := none }) rfl (by kernel_rfl) (by rfl) ?_
    obtain ⟨k1, k2, k3⟩ := id (hB.pc _ rfl).2
    unfold Oper.wp
    go_simp
    refine bun_step hB.store (fun hB hS => ?_)
    try simp only [Act.put, List.setIfInBounds_toArray, List.set_cons_zero, List.set_cons_succ]
    (refine wpH_pure 12 ?_ (oi := { dst := some 10, op := Op.assign (Operand.tmp 58), type := 22, pos := "law.go:49", after := #[{ on := 9, ground := Ground.data }, { on := 11, ground := Ground.chain }, { on := 0, ground := Ground.phase }, { on := 1, ground := Ground.phase }, { on := 2, ground := Ground.phase }, { on := 3, ground := Ground.phase }, { on := 4, ground := Ground.phase }, { on := 5, ground := Ground.phase }, { on := 6, ground := Ground.phase }, { on := 7, ground := Ground.phase }, { on := 8, ground := Ground.phase }, { on := 9, ground := Ground.phase }, { on := 10, ground := Ground.phase }, { on := 11, ground := Ground.phase }], guard := none }) rfl (by kernel_rfl) (by kernel_rfl) (by kernel_rfl) (by rfl) hS (fun _ _ _ h => h) ?_ ?_; rotate_left; focus (intro w; go_simp; try with_reducible rfl))
    try simp only [Act.put, List.setIfInBounds_toArray, List.set_cons_zero, List.set_cons_succ]
    refine wpAnyH_done (by kernel_rfl) ?_ _
    unfold NormQ
    refine ⟨⟨_, _, _, ?_, _, _⟩, ?_, hB⟩
    rotate_left
    (try simp only [Act.put, List.setIfInBounds_toArray, List.set_cons_zero, List.set_cons_succ])
    rfl
    refine wpO_op (oi := { dst := some 9, op := Op.alloc 28, type := 0, pos := "law.go:49", after := #[], guard := none }) rfl (by rfl) ?_
    refine wp_allocK 28 rfl #[.string ⟨List.toArray ([])⟩, .slice none 0 0] (fun w => by go_simp; try rfl) (fun k w' hk K9 hbk => ?_)
    refine bun_step (hB.cell hB.below.size hk K9 hbk) (fun hB hS => ?_)
    try simp only [Act.put, List.setIfInBounds_toArray, List.set_cons_zero, List.set_cons_succ]
    refine wpH_op 9 (oi := { dst := some 58, op := Op.call { callee := Callee.builtin Builtin.append, args := #[Operand.tmp 55, Operand.tmp 57], argTypes := #[22, 22] }, type := 22, pos := "law.go:49", after := #[{ on := 6, ground := Ground.data }, { on := 8, ground := Ground.data }, { on := 4, ground := Ground.chain }], guard := none }) rfl (by kernel_rfl) (by rfl) ?_
    refine wp_appMA (.tmp 55) (.tmp 57) rfl w2.heap.size _ rfl (hB.yc _ _ _ rfl).1 _ l rfl (HM.out.keep (hb2.trans (hB.below.mono hb2.size))) (by omega) hB.below.size (fun v' w' hr hg ho => ?_)
    obtain ⟨bb, hB'⟩ := hB.app hB.below.size hr hg ho
    refine bun_step hB' (fun hB hS => ?_)
    try simp only [Act.put, List.setIfInBounds_toArray, List.set_cons_zero, List.set_cons_succ]
    refine wpH_op 11 (oi := { dst := none, op := Op.store 28 (Operand.tmp 9) (Operand.tmp 54), type := 0, pos := "law.go:49", after := #[{ on := 10, ground := Ground.data }, { on := 5, ground := Ground.data }, { on := 9, ground := Ground.chain }, { on := 0, ground := Ground.phase }, { on := 1, ground := Ground.phase }, { on := 2, ground := Ground.phase }, { on := 3, ground := Ground.phase }, { on := 4, ground := Ground.phase }, { on := 5, ground := Ground.phase }, { on := 6, ground := Ground.textOnly Departure.lateStores }, { on := 7, ground := Ground.textOnly Departure.lateStores }, { on := 8, ground := Ground.textOnly Departure.lateStores }, { on := 9, ground := Ground.textOnly Departure.lateStoresUnsure }, { on := 10, ground := Ground.phase }], guard := none }) rfl (by kernel_rfl) (by rfl) ?_
    obtain ⟨k1, k2, k3⟩ := id (hB.pc _ rfl).2
    unfold Oper.wp
    go_simp
    refine bun_step hB.store (fun hB hS => ?_)
    try simp only [Act.put, List.setIfInBounds_toArray, List.set_cons_zero, List.set_cons_succ]
    (refine wpH_pure 12 ?_ (oi := { dst := some 10, op := Op.assign (Operand.tmp 58), type := 22, pos := "law.go:49", after := #[{ on := 9, ground := Ground.data }, { on := 11, ground := Ground.chain }, { on := 0, ground := Ground.phase }, { on := 1, ground := Ground.phase }, { on := 2, ground := Ground.phase }, { on := 3, ground := Ground.phase }, { on := 4, ground := Ground.phase }, { on := 5, ground := Ground.phase }, { on := 6, ground := Ground.phase }, { on := 7, ground := Ground.phase }, { on := 8, ground := Ground.phase }, { on := 9, ground := Ground.phase }, { on := 10, ground := Ground.phase }, { on := 11, ground := Ground.phase }], guard := none }) rfl (by kernel_rfl) (by kernel_rfl) (by kernel_rfl) (by rfl) hS (fun _ _ _ h => h) ?_ ?_; rotate_left; focus (intro w; go_simp; try with_reducible rfl))
    try simp only [Act.put, List.setIfInBounds_toArray, List.set_cons_zero, List.set_cons_succ]
    refine wpAnyH_done (by kernel_rfl) ?_ _
    unfold NormQ
    refine ⟨⟨_, _, _, ?_, _, _⟩, ?_, hB⟩
    rotate_left
    (try simp only [Act.put, List.setIfInBounds_toArray, List.set_cons_zero, List.set_cons_succ])
    rfl
    refine wpO_op (oi := { dst := some 9, op := Op.alloc 28, type := 0, pos := "law.go:49", after := #[], guard := none }) rfl (by rfl) ?_
    refine wp_allocK 28 rfl #[.string ⟨List.toArray ([])⟩, .slice none 0 0] (fun w => by go_simp; try rfl) (fun k w' hk K9 hbk => ?_)
    refine bun_step (hB.cell hB.below.size hk K9 hbk) (fun hB hS => ?_)
    try simp only [Act.put, List.setIfInBounds_toArray, List.set_cons_zero, List.set_cons_succ]
    refine wpH_call 4 (oi := { dst := some 53, op := Op.call { callee := Callee.value (Operand.func 13), args := #[Operand.tmp 52], argTypes := #[26] }, type := 26, pos := "law.go:49", after := #[{ on := 3, ground := Ground.data }], guard := none }) rfl (by kernel_rfl) (by rfl) (lend_at _ ns (by omega) _ (HU.out.keep (hb2.trans (hS.mono hb2.size)))) ?_ ?_
    · (go_simp; try rfl)
    rintro e w' ⟨g, cap, rfl, hL, hbx⟩
    refine ⟨_, rfl, hS.trans (hbx.mono hS.size), ?_⟩
    replace hS := hS.trans (hbx.mono hS.size)
    replace hB := hB.lend hB.below.size hbx hL
    try simp only [Act.put, List.setIfInBounds_toArray, List.set_cons_zero, List.set_cons_succ]
    (refine wpH_pure 5 ?_ (oi := { dst := some 54, op := Op.build 28 #[(0, Operand.tmp 50), (1, Operand.tmp 53)], type := 28, pos := "law.go:49", after := #[{ on := 1, ground := Ground.data }, { on := 4, ground := Ground.data }], guard := none }) rfl (by kernel_rfl) (by kernel_rfl) (by kernel_rfl) (by rfl) hS (fun _ _ _ h => h) ?_ ?_; rotate_left; focus (intro w; go_simp; try with_reducible rfl))
    try simp only [Act.put, List.setIfInBounds_toArray, List.set_cons_zero, List.set_cons_succ]
    refine wpH_op 9 (oi := { dst := some 58, op := Op.call { callee := Callee.builtin Builtin.append, args := #[Operand.tmp 55, Operand.tmp 57], argTypes := #[22, 22] }, type := 22, pos := "law.go:49", after := #[{ on := 6, ground := Ground.data }, { on := 8, ground := Ground.data }, { on := 4, ground := Ground.chain }], guard := none }) rfl (by kernel_rfl) (by rfl) ?_
    refine wp_appMA (.tmp 55) (.tmp 57) rfl w2.heap.size _ rfl (hB.yc _ _ _ rfl).1 _ l rfl (HM.out.keep (hb2.trans (hB.below.mono hb2.size))) (by omega) hB.below.size (fun v' w' hr hg ho => ?_)
    obtain ⟨bb, hB'⟩ := hB.app hB.below.size hr hg ho
    refine bun_step hB' (fun hB hS => ?_)
    try simp only [Act.put, List.setIfInBounds_toArray, List.set_cons_zero, List.set_cons_succ]
    refine wpH_op 11 (oi := { dst := none, op := Op.store 28 (Operand.tmp 9) (Operand.tmp 54), type := 0, pos := "law.go:49", after := #[{ on := 10, ground := Ground.data }, { on := 5, ground := Ground.data }, { on := 9, ground := Ground.chain }, { on := 0, ground := Ground.phase }, { on := 1, ground := Ground.phase }, { on := 2, ground := Ground.phase }, { on := 3, ground := Ground.phase }, { on := 4, ground := Ground.phase }, { on := 5, ground := Ground.phase }, { on := 6, ground := Ground.textOnly Departure.lateStores }, { on := 7, ground := Ground.textOnly Departure.lateStores }, { on := 8, ground := Ground.textOnly Departure.lateStores }, { on := 9, ground := Ground.textOnly Departure.lateStoresUnsure }, { on := 10, ground := Ground.phase }], guard := none }) rfl (by kernel_rfl) (by rfl) ?_
    obtain ⟨k1, k2, k3⟩ := id (hB.pc _ rfl).2
    unfold Oper.wp
    go_simp
    refine bun_step hB.store (fun hB hS => ?_)
    try simp only [Act.put, List.setIfInBounds_toArray, List.set_cons_zero, List.set_cons_succ]
    (refine wpH_pure 12 ?_ (oi := { dst := some 10, op := Op.assign (Operand.tmp 58), type := 22, pos := "law.go:49", after := #[{ on := 9, ground := Ground.data }, { on := 11, ground := Ground.chain }, { on := 0, ground := Ground.phase }, { on := 1, ground := Ground.phase }, { on := 2, ground := Ground.phase }, { on := 3, ground := Ground.phase }, { on := 4, ground := Ground.phase }, { on := 5, ground := Ground.phase }, { on := 6, ground := Ground.phase }, { on := 7, ground := Ground.phase }, { on := 8, ground := Ground.phase }, { on := 9, ground := Ground.phase }, { on := 10, ground := Ground.phase }, { on := 11, ground := Ground.phase }], guard := none }) rfl (by kernel_rfl) (by kernel_rfl) (by kernel_rfl) (by rfl) hS (fun _ _ _ h => h) ?_ ?_; rotate_left; focus (intro w; go_simp; try with_reducible rfl))
    try simp only [Act.put, List.setIfInBounds_toArray, List.set_cons_zero, List.set_cons_succ]
    refine wpAnyH_done (by kernel_rfl) ?_ _
    unfold NormQ
    refine ⟨⟨_, _, _, ?_, _, _⟩, ?_, hB⟩
    rotate_left
    (try simp only [Act.put, List.setIfInBounds_toArray, List.set_cons_zero, List.set_cons_succ])
    rfl
    refine wpO_op (oi := { dst := some 9, op := Op.alloc 28, type := 0, pos := "law.go:49", after := #[], guard := none }) rfl (by rfl) ?_
    refine wp_allocK 28 rfl #[.string ⟨List.toArray ([])⟩, .slice none 0 0] (fun w => by go_simp; try rfl) (fun k w' hk K9 hbk => ?_)
    refine bun_step (hB.cell hB.below.size hk K9 hbk) (fun hB hS => ?_)
    try simp only [Act.put, List.setIfInBounds_toArray, List.set_cons_zero, List.set_cons_succ]
    refine wpAnyH_all (rs := [4, 6]) (by kernel_rfl) (by simp) (fun jj hjj => ?_)
    simp only [List.mem_cons, List.not_mem_nil, or_false] at hjj
    rcases hjj with rfl | rfl
    refine wpO_call (oi := { dst := some 53, op := Op.call { callee := Callee.value (Operand.func 13), args := #[Operand.tmp 52], argTypes := #[26] }, type := 26, pos := "law.go:49", after := #[{ on := 3, ground := Ground.data }], guard := none }) rfl (by rfl) (lend_at _ ns (by omega) _ (HU.out.keep (hb2.trans (hS.mono hb2.size)))) ?_ ?_
    · (go_simp; try rfl)
    rintro e w' ⟨g, cap, rfl, hL, hbx⟩
    refine ⟨_, rfl, hS.trans (hbx.mono hS.size), ?_⟩
    replace hS := hS.trans (hbx.mono hS.size)
    replace hB := hB.lend hB.below.size hbx hL
    try simp only [Act.put, List.setIfInBounds_toArray, List.set_cons_zero, List.set_cons_succ]
    (refine wpH_pure 5 ?_ (oi := { dst := some 54, op := Op.build 28 #[(0, Operand.tmp 50), (1, Operand.tmp 53)], type := 28, pos := "law.go:49", after := #[{ on := 1, ground := Ground.data }, { on := 4, ground := Ground.data }], guard := none }) rfl (by kernel_rfl) (by kernel_rfl) (by kernel_rfl) (by rfl) hS (fun _ _ _ h => h) ?_ ?_; rotate_left; focus (intro w; go_simp; try with_reducible rfl))
    try simp only [Act.put, List.setIfInBounds_toArray, List.set_cons_zero, List.set_cons_succ]
    refine wpH_op 6 (oi := { dst := some 55, op := Op.buildSlice 22 0 #[], type := 22, pos := "law.go:49", after := #[], guard := none }) rfl (by kernel_rfl) (by rfl) ?_
    unfold Oper.wp
    go_simp
    refine bun_step (hB.build hB.below.size) (fun hB hS => ?_)
    try simp only [Act.put, List.setIfInBounds_toArray, List.set_cons_zero, List.set_cons_succ]
    refine wpH_op 9 (oi := { dst := some 58, op := Op.call { callee := Callee.builtin Builtin.append, args := #[Operand.tmp 55, Operand.tmp 57], argTypes := #[22, 22] }, type := 22, pos := "law.go:49", after := #[{ on := 6, ground := Ground.data }, { on := 8, ground := Ground.data }, { on := 4, ground := Ground.chain }], guard := none }) rfl (by kernel_rfl) (by rfl) ?_
    refine wp_appMA (.tmp 55) (.tmp 57) rfl w2.heap.size _ rfl (hB.yc _ _ _ rfl).1 _ l rfl (HM.out.keep (hb2.trans (hB.below.mono hb2.size))) (by omega) hB.below.size (fun v' w' hr hg ho => ?_)
    obtain ⟨bb, hB'⟩ := hB.app hB.below.size hr hg ho
    refine bun_step hB' (fun hB hS => ?_)
    try simp only [Act.put, List.setIfInBounds_toArray, List.set_cons_zero, List.set_cons_succ]
    refine wpH_op 11 (oi := { dst := none, op := Op.store 28 (Operand.tmp 9) (Operand.tmp 54), type := 0, pos := "law.go:49", after := #[{ on := 10, ground := Ground.data }, { on := 5, ground := Ground.data }, { on := 9, ground := Ground.chain }, { on := 0, ground := Ground.phase }, { on := 1, ground := Ground.phase }, { on := 2, ground := Ground.phase }, { on := 3, ground := Ground.phase }, { on := 4, ground := Ground.phase }, { on := 5, ground := Ground.phase }, { on := 6, ground := Ground.textOnly Departure.lateStores }, { on := 7, ground := Ground.textOnly Departure.lateStores }, { on := 8, ground := Ground.textOnly Departure.lateStores }, { on := 9, ground := Ground.textOnly Departure.lateStoresUnsure }, { on := 10, ground := Ground.phase }], guard := none }) rfl (by kernel_rfl) (by rfl) ?_
    obtain ⟨k1, k2, k3⟩ := id (hB.pc _ rfl).2
    unfold Oper.wp
    go_simp
    refine bun_step hB.store (fun hB hS => ?_)
    try simp only [Act.put, List.setIfInBounds_toArray, List.set_cons_zero, List.set_cons_succ]
    (refine wpH_pure 12 ?_ (oi := { dst := some 10, op := Op.assign (Operand.tmp 58), type := 22, pos := "law.go:49", after := #[{ on := 9, ground := Ground.data }, { on := 11, ground := Ground.chain }, { on := 0, ground := Ground.phase }, { on := 1, ground := Ground.phase }, { on := 2, ground := Ground.phase }, { on := 3, ground := Ground.phase }, { on := 4, ground := Ground.phase }, { on := 5, ground := Ground.phase }, { on := 6, ground := Ground.phase }, { on := 7, ground := Ground.phase }, { on := 8, ground := Ground.phase }, { on := 9, ground := Ground.phase }, { on := 10, ground := Ground.phase }, { on := 11, ground := Ground.phase }], guard := none }) rfl (by kernel_rfl) (by kernel_rfl) (by kernel_rfl) (by rfl) hS (fun _ _ _ h => h) ?_ ?_; rotate_left; focus (intro w; go_simp; try with_reducible rfl))
    try simp only [Act.put, List.setIfInBounds_toArray, List.set_cons_zero, List.set_cons_succ]
    refine wpAnyH_done (by kernel_rfl) ?_ _
    unfold NormQ
    refine ⟨⟨_, _, _, ?_, _, _⟩, ?_, hB⟩
    rotate_left
    (try simp only [Act.put, List.setIfInBounds_toArray, List.set_cons_zero, List.set_cons_succ])
    rfl
    refine wpO_op (oi := { dst := some 55, op := Op.buildSlice 22 0 #[], type := 22, pos := "law.go:49", after := #[], guard := none }) rfl (by rfl) ?_
    unfold Oper.wp
    go_simp
    refine bun_step (hB.build hB.below.size) (fun hB hS => ?_)
    try simp only [Act.put, List.setIfInBounds_toArray, List.set_cons_zero, List.set_cons_succ]
    refine wpH_call 4 (oi := { dst := some 53, op := Op.call { callee := Callee.value (Operand.func 13), args := #[Operand.tmp 52], argTypes := #[26] }, type := 26, pos := "law.go:49", after := #[{ on := 3, ground := Ground.data }], guard := none }) rfl (by kernel_rfl) (by rfl) (lend_at _ ns (by omega) _ (HU.out.keep (hb2.trans (hS.mono hb2.size)))) ?_ ?_
    · (go_simp; try rfl)
    rintro e w' ⟨g, cap, rfl, hL, hbx⟩
    refine ⟨_, rfl, hS.trans (hbx.mono hS.size), ?_⟩
    replace hS := hS.trans (hbx.mono hS.size)
    replace hB := hB.lend hB.below.size hbx hL
    try simp only [Act.put, List.setIfInBounds_toArray, List.set_cons_zero, List.set_cons_succ]
    (refine wpH_pure 5 ?_ (oi := { dst := some 54, op := Op.build 28 #[(0, Operand.tmp 50), (1, Operand.tmp 53)], type := 28, pos := "law.go:49", after := #[{ on := 1, ground := Ground.data }, { on := 4, ground := Ground.data }], guard := none }) rfl (by kernel_rfl) (by kernel_rfl) (by kernel_rfl) (by rfl) hS (fun _ _ _ h => h) ?_ ?_; rotate_left; focus (intro w; go_simp; try with_reducible rfl))
    try simp only [Act.put, List.setIfInBounds_toArray, List.set_cons_zero, List.set_cons_succ]
    refine wpH_op 9 (oi := { dst := some 58, op := Op.call { callee := Callee.builtin Builtin.append, args := #[Operand.tmp 55, Operand.tmp 57], argTypes := #[22, 22] }, type := 22, pos := "law.go:49", after := #[{ on := 6, ground := Ground.data }, { on := 8, ground := Ground.data }, { on := 4, ground := Ground.chain }], guard := none }) rfl (by kernel_rfl) (by rfl) ?_
    refine wp_appMA (.tmp 55) (.tmp 57) rfl w2.heap.size _ rfl (hB.yc _ _ _ rfl).1 _ l rfl (HM.out.keep (hb2.trans (hB.below.mono hb2.size))) (by omega) hB.below.size (fun v' w' hr hg ho => ?_)
    obtain ⟨bb, hB'⟩ := hB.app hB.below.size hr hg ho
    refine bun_step hB' (fun hB hS => ?_)
    try simp only [Act.put, List.setIfInBounds_toArray, List.set_cons_zero, List.set_cons_succ]
    refine wpH_op 11 (oi := { dst := none, op := Op.store 28 (Operand.tmp 9) (Operand.tmp 54), type := 0, pos := "law.go:49", after := #[{ on := 10, ground := Ground.data }, { on := 5, ground := Ground.data }, { on := 9, ground := Ground.chain }, { on := 0, ground := Ground.phase }, { on := 1, ground := Ground.phase }, { on := 2, ground := Ground.phase }, { on := 3, ground := Ground.phase }, { on := 4, ground := Ground.phase }, { on := 5, ground := Ground.phase }, { on := 6, ground := Ground.textOnly Departure.lateStores }, { on := 7, ground := Ground.textOnly Departure.lateStores }, { on := 8, ground := Ground.textOnly Departure.lateStores }, { on := 9, ground := Ground.textOnly Departure.lateStoresUnsure }, { on := 10, ground := Ground.phase }], guard := none }) rfl (by kernel_rfl) (by rfl) ?_
    obtain ⟨k1, k2, k3⟩ := id (hB.pc _ rfl).2
    unfold Oper.wp
    go_simp
    refine bun_step hB.store (fun hB hS => ?_)
    try simp only [Act.put, List.setIfInBounds_toArray, List.set_cons_zero, List.set_cons_succ]
    (refine wpH_pure 12 ?_ (oi := { dst := some 10, op := Op.assign (Operand.tmp 58), type := 22, pos := "law.go:49", after := #[{ on := 9, ground := Ground.data }, { on := 11, ground := Ground.chain }, { on := 0, ground := Ground.phase }, { on := 1, ground := Ground.phase }, { on := 2, ground := Ground.phase }, { on := 3, ground := Ground.phase }, { on := 4, ground := Ground.phase }, { on := 5, ground := Ground.phase }, { on := 6, ground := Ground.phase }, { on := 7, ground := Ground.phase }, { on := 8, ground := Ground.phase }, { on := 9, ground := Ground.phase }, { on := 10, ground := Ground.phase }, { on := 11, ground := Ground.phase }], guard := none }) rfl (by kernel_rfl) (by kernel_rfl) (by kernel_rfl) (by rfl) hS (fun _ _ _ h => h) ?_ ?_; rotate_left; focus (intro w; go_simp; try with_reducible rfl))
    try simp only [Act.put, List.setIfInBounds_toArray, List.set_cons_zero, List.set_cons_succ]
    refine wpAnyH_done (by kernel_rfl) ?_ _
    unfold NormQ
    refine ⟨⟨_, _, _, ?_, _, _⟩, ?_, hB⟩
    rotate_left
    (try simp only [Act.put, List.setIfInBounds_toArray, List.set_cons_zero, List.set_cons_succ])
    rfl
  rintro ⟨p, g, cap, y0, y, yb⟩ w3 hB3
  have hb3 := hb2.trans (hB3.below.mono hb2.size)
  have P3 := (hB3.pc _ rfl).2
  have L3 : Lent w3 w2.heap.size (.slice (some ⟨g, 0, none⟩) ns.length cap) ns := ⟨g, cap, rfl, (hB3.uc _ _ rfl).1⟩
  have Y3 := (hB3.yc _ _ _ rfl).1.ms
  have hx3 := hB3.below
  have B3 := B2.keep hx3
  have C3 := C2.keep hx3
  have hT3 := hT2.keep hx3
  have G3 := HGM.out.keep hx3
  dsimp only at P3 L3 Y3 ⊢
  obtain ⟨ya, yc, rfl⟩ := Y3.form
  clear hB3 hx3 HGM hT2 B2 C2 b1 b2 b3 c1 c2 c3
  simp only [Act.put, List.setIfInBounds_toArray, List.set_cons_zero, List.set_cons_succ]
  obtain ⟨b1, b2, b3⟩ := id B3
  obtain ⟨c1, c2, c3⟩ := id C3
  obtain ⟨e1, e2, e3⟩ := id P3
  have hcm := fun W hK => cmark_any tag sum (by omega) W hK
  have hrm := rmark_any tag sum (by omega)
  have hml := markP_len tag sum
  generalize markP tag sum = mk at *
  obtain ⟨m, z⟩ := mk
  simp only at hcm hrm hml
  go_wp2_with fail
  refine (hcm _ (hk.keep hb3)).mono ?_
  rintro e w4 ⟨rfl, hb⟩
  have hb4 := hb3.trans (hb.mono hb3.size)
  have B4 := B3.keep hb
  have C4 := C3.keep hb
  have P4 := P3.keep hb
  have L4 := L3.keep hb
  have Y4 := Y3.keep hb
  have hT4 := hT3.keep hb
  have G4 := G3.keep hb
  clear hb hb3 B3 C3 P3 L3 Y3 hT3 G3 b1 b2 b3 c1 c2 c3 e1 e2 e3
  obtain ⟨b1, b2, b3⟩ := id B4
  obtain ⟨c1, c2, c3⟩ := id C4
  obtain ⟨e1, e2, e3⟩ := id P4
  go_wp2_with fail
  refine (hrm _).mono ?_
  rintro e w5 ⟨rfl, hb⟩
  have hb5 := hb4.trans (hb.mono hb4.size)
  have B5 := B4.keep hb
  have C5 := C4.keep hb
  have P5 := P4.keep hb
  have L5 := L4.keep hb
  have Y5 := Y4.keep hb
  have hT5 := hT4.keep hb
  have G5 := G4.keep hb
  clear hb hb4 B4 C4 P4 L4 Y4 hT4 G4 b1 b2 b3 c1 c2 c3 e1 e2 e3
  obtain ⟨b1, b2, b3⟩ := id B5
  obtain ⟨c1, c2, c3⟩ := id C5
  obtain ⟨e1, e2, e3⟩ := id P5
  clear hcm hrm
  have hcc : ∀ W, MS W (.slice ya l.length yc) l → SS W (.slice (some ⟨g, 0, none⟩) ns.length cap) ns → Tab W base tp L → KT W → Calls Tryd.prog 16 #[.int .i64 (tag), .slice ya l.length yc, .agg #[.string ⟨List.toArray (d)⟩, .slice (some ⟨g, 0, none⟩) ns.length cap], .pointer (some ⟨tp, 0, none⟩)] W fun e w' => e = .returned (.int .i64 (goodC tag l d ns L)) ∧ Below W.heap.size W w' :=
    fun W h1 h2 h3 h4 => ccheck_any tag _ _ l d ns base tp L W h1 ⟨_, rfl, h2⟩ h3 h4
  have hrc : ∀ W, MS W (.slice ma l.length mc) l → SS W (.slice ua ns.length uc) ns → GRow W base (.slice xa M.length xc) M → Calls Tryd.prog 17 #[.int .i64 (tag), .slice ma l.length mc, .agg #[.string ⟨List.toArray (d)⟩, .slice ua ns.length uc], .slice xa M.length xc] W fun e w' => e = .returned (.int .i64 (goodC tag l d ns L)) ∧ Below W.heap.size W w' := by
    intro W h1 h2 h3
    have := rcheck7_any tag _ _ _ l d ns base M (by omega) HSo.out W h1 ⟨_, rfl, h2⟩ h3 HD.out
    rw [goodC_perm HP.out] at this
    exact this
  generalize goodC tag l d ns L = gc at *
  have hkk := Lib.hid hk
  go_wp2_with fail
  refine wpH_start (by kernel_rfl) (fun hS => ?_)
  (refine wpH_pure 0 ?_ (oi := { dst := some 73, op := Op.move (Operand.tmp 11), type := 9, pos := "law.go:52", after := #[], guard := none }) rfl (by kernel_rfl) (by kernel_rfl) (by kernel_rfl) (by rfl) hS (fun _ _ _ h => h) ?_ ?_; rotate_left; focus (intro w; go_simp; try with_reducible rfl))
  try simp only [Act.put, List.setIfInBounds_toArray, List.set_cons_zero, List.set_cons_succ]
  (refine wpH_pure 1 ?_ (oi := { dst := some 74, op := Op.move (Operand.tmp 13), type := 9, pos := "law.go:52", after := #[], guard := none }) rfl (by kernel_rfl) (by kernel_rfl) (by kernel_rfl) (by rfl) hS (fun _ _ _ h => h) ?_ ?_; rotate_left; focus (intro w; go_simp; try with_reducible rfl))
  try simp only [Act.put, List.setIfInBounds_toArray, List.set_cons_zero, List.set_cons_succ]
  (refine wpH_pure 2 ?_ (oi := { dst := some 75, op := Op.binOp BinOp.neq 9 (Operand.tmp 73) (Operand.tmp 74) 9, type := 4, pos := "law.go:52", after := #[{ on := 0, ground := Ground.data }, { on := 1, ground := Ground.data }], guard := none }) rfl (by kernel_rfl) (by kernel_rfl) (by kernel_rfl) (by rfl) hS (fun _ _ _ h => h) ?_ ?_; rotate_left; focus (intro w; go_simp; try with_reducible rfl))
  try simp only [Act.put, List.setIfInBounds_toArray, List.set_cons_zero, List.set_cons_succ]
  (refine wpH_pure 3 ?_ (oi := { dst := some 76, op := Op.move (Operand.tmp 75), type := 4, pos := "law.go:52", after := #[{ on := 2, ground := Ground.data }], guard := none }) rfl (by kernel_rfl) (by kernel_rfl) (by kernel_rfl) (by rfl) hS (fun _ _ _ h => h) ?_ ?_; rotate_left; focus (intro w; go_simp; try with_reducible rfl))
  try simp only [Act.put, List.setIfInBounds_toArray, List.set_cons_zero, List.set_cons_succ]
  (first | (refine wpH_skip 4 (oi := { dst := some 77, op := Op.move (Operand.tmp 12), type := 36, pos := "law.go:52", after := #[{ on := 3, ground := Ground.guard }], guard := some (3, false) }) rfl (by kernel_rfl) (by kernel_rfl) (by kernel_rfl) (by rfl) hS (fun _ _ _ h => h) ?_) | (refine wpH_pure 4 ?_ (oi := { dst := some 77, op := Op.move (Operand.tmp 12), type := 36, pos := "law.go:52", after := #[{ on := 3, ground := Ground.guard }], guard := some (3, false) }) rfl (by kernel_rfl) (by kernel_rfl) (by kernel_rfl) (by rfl) hS (fun _ _ _ h => h) ?_ ?_; rotate_left; focus (intro w; go_simp; try with_reducible rfl)))
  try simp only [Act.put, List.setIfInBounds_toArray, List.set_cons_zero, List.set_cons_succ]
  (first | (refine wpH_skip 5 (oi := { dst := some 78, op := Op.move (Operand.tmp 14), type := 36, pos := "law.go:52", after := #[{ on := 3, ground := Ground.guard }], guard := some (3, false) }) rfl (by kernel_rfl) (by kernel_rfl) (by kernel_rfl) (by rfl) hS (fun _ _ _ h => h) ?_) | (refine wpH_pure 5 ?_ (oi := { dst := some 78, op := Op.move (Operand.tmp 14), type := 36, pos := "law.go:52", after := #[{ on := 3, ground := Ground.guard }], guard := some (3, false) }) rfl (by kernel_rfl) (by kernel_rfl) (by kernel_rfl) (by rfl) hS (fun _ _ _ h => h) ?_ ?_; rotate_left; focus (intro w; go_simp; try with_reducible rfl)))
  try simp only [Act.put, List.setIfInBounds_toArray, List.set_cons_zero, List.set_cons_succ]
  (first | (refine wpH_skip 6 (oi := { dst := some 79, op := Op.binOp BinOp.neq 36 (Operand.tmp 77) (Operand.tmp 78) 36, type := 4, pos := "law.go:52", after := #[{ on := 4, ground := Ground.data }, { on := 5, ground := Ground.data }, { on := 3, ground := Ground.guard }], guard := some (3, false) }) rfl (by kernel_rfl) (by kernel_rfl) (by kernel_rfl) (by rfl) hS (fun _ _ _ h => h) ?_) | (refine wpH_pure 6 ?_ (oi := { dst := some 79, op := Op.binOp BinOp.neq 36 (Operand.tmp 77) (Operand.tmp 78) 36, type := 4, pos := "law.go:52", after := #[{ on := 4, ground := Ground.data }, { on := 5, ground := Ground.data }, { on := 3, ground := Ground.guard }], guard := some (3, false) }) rfl (by kernel_rfl) (by kernel_rfl) (by kernel_rfl) (by rfl) hS (fun _ _ _ h => h) ?_ ?_; rotate_left; focus (intro w; go_simp; try with_reducible rfl)))
  try simp only [Act.put, List.setIfInBounds_toArray, List.set_cons_zero, List.set_cons_succ]
  (refine wpH_pure 7 ?_ (oi := { dst := some 80, op := Op.pick (Operand.tmp 76) (Operand.const (Value.bool true)) (Operand.tmp 79), type := 4, pos := "law.go:52", after := #[{ on := 3, ground := Ground.data }, { on := 6, ground := Ground.data }], guard := none }) rfl (by kernel_rfl) (by kernel_rfl) (by kernel_rfl) (by rfl) hS (fun _ _ _ h => h) ?_ ?_; rotate_left; focus (intro w; go_simp; try with_reducible rfl))
  try simp only [Act.put, List.setIfInBounds_toArray, List.set_cons_zero, List.set_cons_succ]
  (refine wpH_pure 8 ?_ (oi := { dst := some 81, op := Op.move (Operand.tmp 80), type := 4, pos := "law.go:52", after := #[{ on := 7, ground := Ground.data }, { on := 3, ground := Ground.chain }], guard := none }) rfl (by kernel_rfl) (by kernel_rfl) (by kernel_rfl) (by rfl) hS (fun _ _ _ h => h) ?_ ?_; rotate_left; focus (intro w; go_simp; try with_reducible rfl))
  try simp only [Act.put, List.setIfInBounds_toArray, List.set_cons_zero, List.set_cons_succ]
  (first | (refine wpH_skip 9 (oi := { dst := some 82, op := Op.fieldAddr 25 (Operand.tmp 3) 0, type := 0, pos := "law.go:52", after := #[{ on := 8, ground := Ground.guard }], guard := some (8, false) }) rfl (by kernel_rfl) (by kernel_rfl) (by kernel_rfl) (by rfl) hS (fun _ _ _ h => h) ?_) | (refine wpH_pure 9 ?_ (oi := { dst := some 82, op := Op.fieldAddr 25 (Operand.tmp 3) 0, type := 0, pos := "law.go:52", after := #[{ on := 8, ground := Ground.guard }], guard := some (8, false) }) rfl (by kernel_rfl) (by kernel_rfl) (by kernel_rfl) (by rfl) hS (fun _ _ _ h => h) ?_ ?_; rotate_left; focus (intro w; go_simp; try with_reducible rfl)))
  try simp only [Act.put, List.setIfInBounds_toArray, List.set_cons_zero, List.set_cons_succ]
  refine wpH_load 10 (.int .i64 (tag)) (oi := { dst := some 83, op := Op.load 3 (Operand.tmp 82), type := 3, pos := "law.go:52", after := #[{ on := 9, ground := Ground.data }, { on := 8, ground := Ground.guard }], guard := some (8, false) }) rfl (by kernel_rfl) (by kernel_rfl) (by kernel_rfl) (by rfl) hS (fun _ _ _ h => h) (fun w hb2 => (by have c := (B5.keep hb2).cell 0; go_simp; try rfl)) ?_
  try simp only [Act.put, List.setIfInBounds_toArray, List.set_cons_zero, List.set_cons_succ]
  (first | (refine wpH_skip 11 (oi := { dst := some 84, op := Op.move (Operand.tmp 10), type := 22, pos := "law.go:52", after := #[{ on := 8, ground := Ground.guard }], guard := some (8, false) }) rfl (by kernel_rfl) (by kernel_rfl) (by kernel_rfl) (by rfl) hS (fun _ _ _ h => h) ?_) | (refine wpH_pure 11 ?_ (oi := { dst := some 84, op := Op.move (Operand.tmp 10), type := 22, pos := "law.go:52", after := #[{ on := 8, ground := Ground.guard }], guard := some (8, false) }) rfl (by kernel_rfl) (by kernel_rfl) (by kernel_rfl) (by rfl) hS (fun _ _ _ h => h) ?_ ?_; rotate_left; focus (intro w; go_simp; try with_reducible rfl)))
  try simp only [Act.put, List.setIfInBounds_toArray, List.set_cons_zero, List.set_cons_succ]
  refine wpH_row rowC 12 (oi := { dst := some 85, op := Op.load 28 (Operand.tmp 9), type := 28, pos := "law.go:52", after := #[{ on := 8, ground := Ground.guard }], guard := some (8, false) }) rfl (by kernel_rfl) (by kernel_rfl) (by kernel_rfl) (by rfl) hS (vs := [.string ⟨List.toArray (d)⟩, .slice (some ⟨g, 0, none⟩) ns.length cap]) (fun _ _ _ h => h) (.tmp 9) rfl rfl (rfl) (fun w hb2 => P5.keep hb2) ?_
  try simp only [Act.put, List.setIfInBounds_toArray, List.set_cons_zero, List.set_cons_succ]
  (first | (refine wpH_skip 13 (oi := { dst := some 86, op := Op.move (Operand.tmp 7), type := 31, pos := "law.go:52", after := #[{ on := 8, ground := Ground.guard }], guard := some (8, false) }) rfl (by kernel_rfl) (by kernel_rfl) (by kernel_rfl) (by rfl) hS (fun _ _ _ h => h) ?_) | (refine wpH_pure 13 ?_ (oi := { dst := some 86, op := Op.move (Operand.tmp 7), type := 31, pos := "law.go:52", after := #[{ on := 8, ground := Ground.guard }], guard := some (8, false) }) rfl (by kernel_rfl) (by kernel_rfl) (by kernel_rfl) (by rfl) hS (fun _ _ _ h => h) ?_ ?_; rotate_left; focus (intro w; go_simp; try with_reducible rfl)))
  try simp only [Act.put, List.setIfInBounds_toArray, List.set_cons_zero, List.set_cons_succ]
  (first | (refine wpH_skip 15 (oi := { dst := some 88, op := Op.fieldAddr 25 (Operand.tmp 3) 0, type := 0, pos := "law.go:52", after := #[{ on := 8, ground := Ground.guard }], guard := some (8, false) }) rfl (by kernel_rfl) (by kernel_rfl) (by kernel_rfl) (by rfl) hS (fun _ _ _ h => h) ?_) | (refine wpH_pure 15 ?_ (oi := { dst := some 88, op := Op.fieldAddr 25 (Operand.tmp 3) 0, type := 0, pos := "law.go:52", after := #[{ on := 8, ground := Ground.guard }], guard := some (8, false) }) rfl (by kernel_rfl) (by kernel_rfl) (by kernel_rfl) (by rfl) hS (fun _ _ _ h => h) ?_ ?_; rotate_left; focus (intro w; go_simp; try with_reducible rfl)))
  try simp only [Act.put, List.setIfInBounds_toArray, List.set_cons_zero, List.set_cons_succ]
  refine wpH_load 16 (.int .i64 (tag)) (oi := { dst := some 89, op := Op.load 3 (Operand.tmp 88), type := 3, pos := "law.go:52", after := #[{ on := 15, ground := Ground.data }, { on := 8, ground := Ground.guard }], guard := some (8, false) }) rfl (by kernel_rfl) (by kernel_rfl) (by kernel_rfl) (by rfl) hS (fun _ _ _ h => h) (fun w hb2 => (by have c := (B5.keep hb2).cell 0; go_simp; try rfl)) ?_
  try simp only [Act.put, List.setIfInBounds_toArray, List.set_cons_zero, List.set_cons_succ]
  (first | (refine wpH_skip 17 (oi := { dst := some 90, op := Op.fieldAddr 25 (Operand.tmp 3) 1, type := 0, pos := "law.go:52", after := #[{ on := 8, ground := Ground.guard }], guard := some (8, false) }) rfl (by kernel_rfl) (by kernel_rfl) (by kernel_rfl) (by rfl) hS (fun _ _ _ h => h) ?_) | (refine wpH_pure 17 ?_ (oi := { dst := some 90, op := Op.fieldAddr 25 (Operand.tmp 3) 1, type := 0, pos := "law.go:52", after := #[{ on := 8, ground := Ground.guard }], guard := some (8, false) }) rfl (by kernel_rfl) (by kernel_rfl) (by kernel_rfl) (by rfl) hS (fun _ _ _ h => h) ?_ ?_; rotate_left; focus (intro w; go_simp; try with_reducible rfl)))
  try simp only [Act.put, List.setIfInBounds_toArray, List.set_cons_zero, List.set_cons_succ]
  refine wpH_load 18 (.slice ma l.length mc) (oi := { dst := some 91, op := Op.load 22 (Operand.tmp 90), type := 22, pos := "law.go:52", after := #[{ on := 17, ground := Ground.data }, { on := 8, ground := Ground.guard }], guard := some (8, false) }) rfl (by kernel_rfl) (by kernel_rfl) (by kernel_rfl) (by rfl) hS (fun _ _ _ h => h) (fun w hb2 => (by have c := (B5.keep hb2).cell 1; go_simp; try rfl)) ?_
  try simp only [Act.put, List.setIfInBounds_toArray, List.set_cons_zero, List.set_cons_succ]
  refine wpH_row rowC 19 (oi := { dst := some 92, op := Op.load 28 (Operand.tmp 4), type := 28, pos := "law.go:52", after := #[{ on := 8, ground := Ground.guard }], guard := some (8, false) }) rfl (by kernel_rfl) (by kernel_rfl) (by kernel_rfl) (by rfl) hS (vs := [.string ⟨List.toArray (d)⟩, .slice ua ns.length uc]) (fun _ _ _ h => h) (.tmp 4) rfl rfl (rfl) (fun w hb2 => C5.keep hb2) ?_
  try simp only [Act.put, List.setIfInBounds_toArray, List.set_cons_zero, List.set_cons_succ]
  (first | (refine wpH_skip 20 (oi := { dst := some 93, op := Op.move (Operand.tmp 8), type := 32, pos := "law.go:52", after := #[{ on := 8, ground := Ground.guard }], guard := some (8, false) }) rfl (by kernel_rfl) (by kernel_rfl) (by kernel_rfl) (by rfl) hS (fun _ _ _ h => h) ?_) | (refine wpH_pure 20 ?_ (oi := { dst := some 93, op := Op.move (Operand.tmp 8), type := 32, pos := "law.go:52", after := #[{ on := 8, ground := Ground.guard }], guard := some (8, false) }) rfl (by kernel_rfl) (by kernel_rfl) (by kernel_rfl) (by rfl) hS (fun _ _ _ h => h) ?_ ?_; rotate_left; focus (intro w; go_simp; try with_reducible rfl)))
  try simp only [Act.put, List.setIfInBounds_toArray, List.set_cons_zero, List.set_cons_succ]
  refine wpH_call 14 (oi := { dst := some 87, op := Op.call { callee := Callee.value (Operand.func 16), args := #[Operand.tmp 83, Operand.tmp 84, Operand.tmp 85, Operand.tmp 86], argTypes := #[3, 22, 28, 31] }, type := 36, pos := "law.go:52", after := #[{ on := 10, ground := Ground.data }, { on := 11, ground := Ground.data }, { on := 12, ground := Ground.data }, { on := 13, ground := Ground.data }, { on := 8, ground := Ground.chain }, { on := 8, ground := Ground.guard }], guard := some (8, false) }) rfl (by kernel_rfl) (by rfl) (hcc _ (Y5.keep hS) (L5.keep hS).ss (hT5.keep hS) (hkk.out.keep (hb5.trans (hS.mono hb5.size)))) ?_ ?_
  · (go_simp; try rfl)
  rintro e w' ⟨rfl, hbx⟩
  refine ⟨_, rfl, hS.trans (hbx.mono hS.size), ?_⟩
  replace hS := hS.trans (hbx.mono hS.size)
  try simp only [Act.put, List.setIfInBounds_toArray, List.set_cons_zero, List.set_cons_succ]
  refine wpH_call 21 (oi := { dst := some 94, op := Op.call { callee := Callee.value (Operand.func 17), args := #[Operand.tmp 89, Operand.tmp 91, Operand.tmp 92, Operand.tmp 93], argTypes := #[3, 22, 28, 32] }, type := 36, pos := "law.go:52", after := #[{ on := 16, ground := Ground.data }, { on := 18, ground := Ground.data }, { on := 19, ground := Ground.data }, { on := 20, ground := Ground.data }, { on := 14, ground := Ground.chain }, { on := 8, ground := Ground.guard }], guard := some (8, false) }) rfl (by kernel_rfl) (by rfl) (hrc _ (HM.out.keep (hb5.trans (hS.mono hb5.size))) (HU.out.keep (hb5.trans (hS.mono hb5.size))) (G5.keep hS)) ?_ ?_
  · (go_simp; try rfl)
  rintro e w' ⟨rfl, hbx⟩
  refine ⟨_, rfl, hS.trans (hbx.mono hS.size), ?_⟩
  replace hS := hS.trans (hbx.mono hS.size)
  try simp only [Act.put, List.setIfInBounds_toArray, List.set_cons_zero, List.set_cons_succ]
  (first | (refine wpH_skip 22 (oi := { dst := some 95, op := Op.binOp BinOp.neq 36 (Operand.tmp 87) (Operand.tmp 94) 36, type := 4, pos := "law.go:52", after := #[{ on := 14, ground := Ground.data }, { on := 21, ground := Ground.data }, { on := 8, ground := Ground.guard }], guard := some (8, false) }) rfl (by kernel_rfl) (by kernel_rfl) (by kernel_rfl) (by rfl) hS (fun _ _ _ h => h) ?_) | (refine wpH_pure 22 ?_ (oi := { dst := some 95, op := Op.binOp BinOp.neq 36 (Operand.tmp 87) (Operand.tmp 94) 36, type := 4, pos := "law.go:52", after := #[{ on := 14, ground := Ground.data }, { on := 21, ground := Ground.data }, { on := 8, ground := Ground.guard }], guard := some (8, false) }) rfl (by kernel_rfl) (by kernel_rfl) (by kernel_rfl) (by rfl) hS (fun _ _ _ h => h) ?_ ?_; rotate_left; focus (intro w; go_simp; try with_reducible rfl)))
  try simp only [Act.put, List.setIfInBounds_toArray, List.set_cons_zero, List.set_cons_succ]
  (refine wpH_pure 23 ?_ (oi := { dst := some 96, op := Op.pick (Operand.tmp 81) (Operand.const (Value.bool true)) (Operand.tmp 95), type := 4, pos := "law.go:52", after := #[{ on := 8, ground := Ground.data }, { on := 22, ground := Ground.data }], guard := none }) rfl (by kernel_rfl) (by kernel_rfl) (by kernel_rfl) (by rfl) hS (fun _ _ _ h => h) ?_ ?_; rotate_left; focus (intro w; go_simp; try with_reducible rfl))
  try simp only [Act.put, List.setIfInBounds_toArray, List.set_cons_zero, List.set_cons_succ]
  refine wpAnyH_done (by kernel_rfl) ?_ _
  have hb6 := hb5.trans (hS.mono hb5.size)
  have B6 := B5.keep hS
  have C6 := C5.keep hS
  have P6 := P5.keep hS
  have L6 := L5.keep hS
  have Y6 := Y5.keep hS
  have hT6 := hT5.keep hS
  have G6 := G5.keep hS
  clear hS hb5 B5 C5 P5 L5 Y5 hT5 G5 b1 b2 b3 c1 c2 c3 e1 e2 e3
  obtain ⟨b1, b2, b3⟩ := id B6
  obtain ⟨c1, c2, c3⟩ := id C6
  obtain ⟨e1, e2, e3⟩ := id P6
  clear hcc hrc
  have hga := cgather_any tag (.slice ya l.length yc) l sum base tp L (by omega) _ Y6 hT6 (hk.keep hb6)
  have hrg : ∀ W, MS W (.slice ma l.length mc) l → GRow W base (.slice xa M.length xc) M → Calls Tryd.prog 19 #[.int .i64 (tag), .slice ma l.length mc, .string ⟨List.toArray (sum)⟩, .slice xa M.length xc] W fun e w' => ∃ u, e = .returned (.tuple #[.agg #[.string ⟨List.toArray ((gathC tag l sum L).1.1)⟩, u], .int .i64 ((gathC tag l sum L).2)]) ∧ SRow w' W.heap.size u (gathC tag l sum L).1.2 ∧ Below W.heap.size W w' := by
    intro W h1 h2
    have := rgather7_any tag _ _ l sum base M (by omega) HSo.out hsum W h1 h2
    rw [gathC_perm HP.out] at this
    exact this
  generalize gathC tag l sum L = q at *
  obtain ⟨⟨gd, gn⟩, gc⟩ := q
  simp only at hga hrg
  obtain ⟨w6, hw6⟩ := Below.name hb6
  subst hw6
  go_wp2_with fail
  refine hga.mono ?_
  rintro e w7 ⟨u1, rfl, hS1, hb⟩
  obtain ⟨pa, pc, rfl⟩ := hS1.form
  have hx : Below w7.heap.size w7 (w7.alloc (.cells #[.string ⟨List.toArray (gd)⟩, .slice pa gn.length pc] 28)) := Below.allocS (Below.refl _ _) _
  have hb8 := hb.trans (hx.mono hb.size)
  have D8 : Blk (w7.alloc (.cells #[.string ⟨List.toArray (gd)⟩, .slice pa gn.length pc] 28)) w7.heap.size #[.string ⟨List.toArray (gd)⟩, .slice pa gn.length pc] := Blk.new _ _ _
  have S8 := hS1.keep hx
  have B8 := B6.keep hb8
  have C8 := C6.keep hb8
  have hw68 := hb8.size
  clear hga hb hx hS1 b1 b2 b3 c1 c2 c3 e1 e2 e3
  obtain ⟨b1, b2, b3⟩ := id B8
  have hr8 := hrg _ (HM.out.keep (hb6.trans (hb8.mono hb6.size))) (G6.keep hb8)
  clear hrg
  go_wp2_with fail
  refine hr8.mono ?_
  rintro e w9 ⟨u2, rfl, hS2, hb⟩
  obtain ⟨qa, qc, rfl⟩ := hS2.form
  have hx : Below w9.heap.size w9 (w9.alloc (.cells #[.string ⟨List.toArray (gd)⟩, .slice qa gn.length qc] 28)) := Below.allocS (Below.refl _ _) _
  have hb9 := hb.trans (hx.mono hb.size)
  have hb10 := hb8.trans (hb9.mono hb8.size)
  have D10 := D8.keep hb9
  have S10 := S8.keep hb9
  have E10 : Blk (w9.alloc (.cells #[.string ⟨List.toArray (gd)⟩, .slice qa gn.length qc] 28)) w9.heap.size #[.string ⟨List.toArray (gd)⟩, .slice qa gn.length qc] := Blk.new _ _ _
  have Q10 := (hS2.keep hx).ss
  clear hr8 hb hx hb9 hS2 D8 S8 B8 C8 hb8 hw68 b1 b2 b3
  obtain ⟨b1, b2, b3⟩ := id D10
  obtain ⟨c1, c2, c3⟩ := id E10
  have hsc := samecert_any (.agg #[.string ⟨List.toArray (gd)⟩, .slice pa gn.length pc]) (.agg #[.string ⟨List.toArray (gd)⟩, .slice qa gn.length qc]) gd gd gn gn _ ⟨_, rfl, S10.ss⟩ ⟨_, rfl, Q10⟩
  rw [show (gd == gd && sameL gn gn) = true from by simp [sameL]] at hsc
  go_wp2_with fail
  refine hsc.mono ?_
  rintro e w11 ⟨rfl, hb⟩
  have hb11 := hb10.trans (hb.mono hb10.size)
  have D11 := D10.keep hb
  have S11 := S10.keep hb
  clear hsc hb hb10 D10 S10 E10 Q10 b1 b2 b3 c1 c2 c3
  obtain ⟨b1, b2, b3⟩ := id D11
  go_wp2_with fail
  refine (spoil_any _ _ gn _ S11).mono ?_
  rintro e w12 ⟨rfl, hm⟩
  have hc12 : Below w6.heap.size w6 w12 := Below.mod hb11 hm hb11.size (fun x hx => S11.own x (by simpa using hx))
  have hb12 := hb6.trans (hc12.mono hb6.size)
  have B12 := B6.keep hc12
  have C12 := C6.keep hc12
  have P12 := P6.keep hc12
  have L12 := L6.keep hc12
  have Y12 := Y6.keep hc12
  clear hm hb11 D11 S11 b1 b2 b3 hc12 B6 C6 P6 L6 Y6 hT6 G6
  obtain ⟨b1, b2, b3⟩ := id B12
  obtain ⟨c1, c2, c3⟩ := id C12
  obtain ⟨e1, e2, e3⟩ := id P12
  go_wp2_with fail
  refine (kept_any _ _ _ ns _ L12 (HU.out.keep hb12)).mono ?_
  rintro e w13 ⟨rfl, hb⟩
  have hb13 := hb12.trans (hb.mono hb12.size)
  have B13 := B12.keep hb
  have Y13 := Y12.keep hb
  clear hb hb12 B12 C12 P12 L12 Y12 b1 b2 b3 c1 c2 c3 e1 e2 e3
  obtain ⟨b1, b2, b3⟩ := id B13
  have hsm := samemembers_any _ _ l l _ Y13 (HM.out.keep hb13)
  rw [show decide (l = l) = true from by simp] at hsm
  go_wp2_with fail
  refine hsm.mono ?_
  rintro e w14 ⟨rfl, nn, rfl⟩
  have hb14 := below_drewN hb13 nn
  clear hsm B13 Y13 b1 b2 b3
  go_wp2_with fail
  refine (works7_any _ (hk.keep hb14)).mono ?_
  rintro e w15 ⟨rfl, hb⟩
  go_wp2_with fail
  all_goals (go_ret; exact ⟨rfl, hb14.trans (hb.mono hb14.size)⟩)
end Go.Proofs.YtbnjhfkmdejeaaaDoor
