/- AppI, Spot, LessR, Grow. -/
import Derived.Deep.Upon
import Derived.Test.YthkpmlfaddlieaaGreatDoorMw13
set_option linter.unnecessarySimpa false
set_option linter.unusedSimpArgs false
set_option linter.unusedVariables false
set_option maxRecDepth 100000
set_option maxHeartbeats 32000000
namespace Go.Proofs.YthkpmlfaddlieaaGreatDoor
open Go.RowKit Pl
section
variable {ops : Array Oper} {o : Oper} {rest : List Oper} {a : Act} {w : World} {Q : Exit → Act → World → Prop}
theorem wp_appII {K : Act → World → Prop} (s x : Operand)
  (ho : o.op = .call { callee := .builtin .append, args := #[s, x], argTypes := #[38, 38] })
  (base : Nat) (v : Value) (l : List It) (hs : a.eval s = v) (hown : IRow w base v l)
  (u : Value) (news : List It) (hx : a.eval x = u) (hsrc : IL w u news)
  (hlen : l.length + news.length ≤ 1099511627000) (hbase : base ≤ w.heap.size)
  (h : ∀ v' w', IRow w' base v' (l ++ news) → Below base w w' → K (a.put o.dst v') w') : o.wp Tryz.prog a w K Q := by
 obtain ⟨au, cu, hu, h1, h2, h3⟩ := hsrc
 by_cases hn : news = []
 ·subst hn
  obtain ⟨i0, hi, hz0, hz1, hz2⟩ := info_parts infoIt
  obtain ⟨va, vc, hv⟩ := hown.form
  have hle : l.length ≤ vc := by
   rcases hown.cells with ⟨e, e2⟩ | ⟨g, cap, e, _, _, h4, _⟩
   ·subst e2; simp
   ·rw [hv] at e; injection e with _ _ e; subst e; exact h4
  have hS : Src Tryz.prog i0.size 38 u 0 [] w := by
   subst hu
   cases au with
   | none => exact Src.ofNil w Tryz.underlying38 cu
   | some ad => exact Src.ofSlice w Tryz.underlying38 ad 0 cu [] (by simp) (fun j u h => by simp at h) (fun _ h => by cases h)
  have hr := run_append_nothing (P := Tryz.prog) w 38 38 o.type 203 i0 Tryz.underlying38 hi va l.length vc hle u hS
  unfold Oper.wp execOp
  simp only [ho, resolve, invoke, builtin, Sem.run_bind, Sem.run_pure, Result.andThen_ok, List.map_toArray, List.map_cons, List.map_nil, hs, hx, hv, hr]
  exact h _ w (by rw [List.append_nil, ← hv]; exact hown) (Below.refl _ _)
 ·obtain ⟨g, off, rfl, hg, hc⟩ := h3 hn
  exact wp_appI s x ho base v l hs hown g off news.length cu news (hx.trans hu) rfl hc hlen hbase h
theorem wpList_appII (hgd : o.guard = none) (s x : Operand)
  (ho : o.op = .call { callee := .builtin .append, args := #[s, x], argTypes := #[38, 38] })
  (base : Nat) (v : Value) (l : List It) (hs : a.eval s = v) (hown : IRow w base v l)
  (u : Value) (news : List It) (hx : a.eval x = u) (hsrc : IL w u news)
  (hlen : l.length + news.length ≤ 1099511627000) (hbase : base ≤ w.heap.size)
  (h : ∀ v' w', IRow w' base v' (l ++ news) → Below base w w' → wpList Tryz.prog ops Q rest (a.put o.dst v') w') : wpList Tryz.prog ops Q (o :: rest) a w :=
 wpList_plain hgd fun _ hK => wp_appII s x ho base v l hs hown u news hx hsrc hlen hbase fun v' w' h2 h3 => hK _ _ (h v' w' h2 h3)
end
theorem getD_takeI (l : List It) (k i : Nat) (hi : i < k) : (l.take k).getD i ([], []) = l.getD i ([], []) := by
 simp [List.getD_eq_getElem?_getD, List.getElem?_take, hi]
theorem getD_dropI (l : List It) (k i : Nat) : (l.drop k).getD i ([], []) = l.getD (k + i) ([], []) := by
 simp [List.getD_eq_getElem?_getD]
theorem IL.upto {w : World} {a : Option Addr} {c : Nat} {l : List It} (h : IL w (.slice a l.length c) l) (k : Nat) (hk : k ≤ l.length) : IL w (.slice a k c) (l.take k) := by
 obtain ⟨a', cap, h1, h2, h3, h5⟩ := h
 injection h1 with e1 _ e3
 subst e1 e3
 have hl : (l.take k).length = k := by simp; omega
 refine ⟨a, c, by rw [hl], by omega, h3, fun hn => ?_⟩
 obtain ⟨g, off, e, hg, hc⟩ := h5 (by intro e; rw [e] at hn; simp at hn)
 exact ⟨g, off, e, hg, fun i hi => by rw [getD_takeI _ _ _ (by omega)]; exact hc i (by omega)⟩
end Go.Proofs.YthkpmlfaddlieaaGreatDoor
namespace Go.Proofs.YthkpmlfaddlieaaGreatDoor
open Go.RowKit Go.Shelf Pl
def spcs (x : Spt) : List Value := .string ⟨List.toArray x.place⟩ :: .string ⟨List.toArray ((enc x.kind x.path x.val x.kid))⟩ :: .string ⟨List.toArray x.sum⟩ :: nd x.kind x.path x.val x.kid
theorem spcs_len (x : Spt) : (spcs x).length = 22 := by simp [spcs, nd_len]
theorem spcs_all : ∀ l : List Spt, (l.flatMap spcs).length = l.length * 22
 | [] => rfl
 | x :: r => by rw [List.flatMap_cons, List.length_append, spcs_len, spcs_all r, List.length_cons]; omega
theorem nd_one (kind : Int) (path val : Bs) (kid : Nat → Bs) : ∀ u ∈ nd kind path val kid, u.oneCell' = true := by
 intro u hu
 simp only [nd, ka, List.mem_cons, List.mem_map] at hu
 rcases hu with rfl | rfl | rfl | ⟨s, _, rfl⟩ <;> rfl
theorem spcs_one (x : Spt) : ∀ u ∈ spcs x, u.oneCell' = true := by
 intro u hu
 rcases List.mem_cons.1 hu with rfl | hu
 ·rfl
 rcases List.mem_cons.1 hu with rfl | hu
 ·rfl
 rcases List.mem_cons.1 hu with rfl | hu
 ·rfl
 exact nd_one _ _ _ _ u hu
def nilSp : Value := .agg (.string ⟨List.toArray []⟩ :: .string ⟨List.toArray []⟩ :: .string ⟨List.toArray []⟩ :: nd 0 [] [] noK).toArray
theorem infoSp : (Tryz.prog.info? 175).map (fun i => (i.zero, i.size, i.bytes)) = some (some nilSp, 22, 344) := by kernel_rfl
theorem row_node : RowT Tryz.prog 173 19 := RowT.mk' Tryz.underlying173 rfl (by kernel_rfl)
def SpL (w : World) (v : Value) (l : List Spt) : Prop :=
 ∃ a cap, v = .slice a l.length cap ∧ l.length ≤ cap ∧ cap ≤ maxLen ∧ (l ≠ [] → ∃ g off, a = some ⟨g, off, none⟩ ∧ g < w.heap.size ∧ w.rangeAt g off (l.flatMap spcs))
theorem SpL.keep {W w : World} {v : Value} {l : List Spt} (h : SpL W v l) (hb : Below W.heap.size W w) : SpL w v l := by
 obtain ⟨a, cap, h3, h4, h5, h6⟩ := h
 refine ⟨a, cap, h3, h4, h5, fun hn => ?_⟩
 obtain ⟨g, off, e, hg, hr⟩ := h6 hn
 exact ⟨g, off, e, Nat.lt_of_lt_of_le hg hb.size, rg_keep hr hg hb⟩
theorem SpL.nil (w : World) : SpL w (.slice none 0 0) [] := ⟨none, 0, rfl, Nat.le_refl _, by unfold maxLen; omega, fun h => absurd rfl h⟩
theorem SpL.form {w : World} {v : Value} {l : List Spt} (h : SpL w v l) : ∃ a c, v = .slice a l.length c := by
 obtain ⟨a, cap, h3, _⟩ := h; exact ⟨a, cap, h3⟩
theorem SpL.head {w : World} {a : Option Addr} {n c : Nat} {l : List Spt} (h : SpL w (.slice a n c) l) (hl : l ≠ []) : ∃ g off, a = some ⟨g, off, none⟩ ∧ g < w.heap.size ∧ w.cell? ⟨g, off + 2, none⟩ = some (.string ⟨List.toArray ((headS l))⟩) := by
 obtain ⟨a2, cap, h3, h4, h5, h6⟩ := h
 injection h3 with e1 _ _
 subst e1
 obtain ⟨g, off, e, hg, hr⟩ := h6 hl
 rcases l with _ | ⟨x, r⟩
 ·exact absurd rfl hl
 ·exact ⟨g, off, e, hg, hr 2 _ (by simp [spcs, headS])⟩
def SpRow (w : World) (base : Nat) (v : Value) (l : List Spt) : Prop := w.ownsRow base 175 22 v l.length (l.flatMap spcs)
theorem SpRow.nil (w : World) (base : Nat) : SpRow w base (.slice none 0 0) [] := ⟨rfl, .inl ⟨rfl, rfl⟩⟩
theorem SpRow.sp {w : World} {base : Nat} {v : Value} {l : List Spt} (h : SpRow w base v l) : SpL w v l := by
 rcases row_openO h with ⟨e, h0⟩ | ⟨g, cap, e, k1, k2, k3, k4, k5, k6⟩
 ·have : l = [] := List.length_eq_zero_iff.1 h0
  subst this; subst e
  exact SpL.nil w
 ·refine ⟨_, cap, e, k3, k4, fun _ => ⟨g, 0, rfl, k2, fun j u hj => ?_⟩⟩
  have hjl := (List.getElem?_eq_some_iff.1 hj).1
  rw [spcs_all] at hjl
  rw [Nat.zero_add, k5 j hjl]
  exact hj
theorem SpRow.own {w : World} {base : Nat} {v : Value} {l : List Spt} (h : SpRow w base v l) : ∀ k, v.ownBlock = some k → base ≤ k := by
 intro k hk
 rcases row_openO h with ⟨rfl, _⟩ | ⟨g, cap, rfl, k1, _⟩
 ·cases hk
 ·cases hk; exact k1
theorem SpRow.low {w : World} {b c : Nat} {v : Value} {l : List Spt} (h : SpRow w b v l) (hb : c ≤ b) : SpRow w c v l := by
 refine ⟨h.1, h.2.imp id ?_⟩
 rintro ⟨g, cap, cur, hv, h1, h2⟩
 exact ⟨g, cap, cur, hv, Nat.le_trans hb h1, h2⟩
theorem SpRow.mod {W w : World} {b : Nat} {v : Value} {l : List Spt} (h : SpRow W b v l) {m : List Nat} (hm : Mod m W w) (hn : ∀ k ∈ m, k < b) : SpRow w b v l := by
 refine ⟨h.1, h.2.imp id ?_⟩
 rintro ⟨g, cap, cur, hv, h1, h2, h3⟩
 subst hv
 have hg : g < W.heap.size := by
  rcases Nat.lt_or_ge g W.heap.size with hlt | hge
  ·exact hlt
  ·rw [Array.getElem?_eq_none hge] at h2; cases h2
 exact ⟨g, cap, cur, rfl, h1, (hm.block g hg (fun hx => by have := hn g hx; omega)).trans h2, h3⟩
theorem SpRow.keep {W w : World} {b : Nat} {v : Value} {l : List Spt} (h : SpRow W b v l) (hb : Below W.heap.size W w) : SpRow w b v l := by
 refine ⟨h.1, h.2.imp id ?_⟩
 rintro ⟨g, cap, cur, hv, h1, h2, h3⟩
 subst hv
 have hg : g < W.heap.size := by
  rcases Nat.lt_or_ge g W.heap.size with hlt | hge
  ·exact hlt
  ·rw [Array.getElem?_eq_none hge] at h2; cases h2
 exact ⟨g, cap, cur, rfl, h1, (hb.block g hg).trans h2, h3⟩
section
variable {ops : Array Oper} {o : Oper} {rest : List Oper} {a : Act} {w : World} {Q : Exit → Act → World → Prop}
theorem wp_appSp {K : Act → World → Prop} (s x : Operand)
  (ho : o.op = .call { callee := .builtin .append, args := #[s, x], argTypes := #[169, 169] })
  (base : Nat) (v : Value) (l : List Spt) (hs : a.eval s = v) (hown : SpRow w base v l)
  (u : Value) (news : List Spt) (hx : a.eval x = u) (hsrc : SpL w u news)
  (hlen : l.length + news.length ≤ 1000000) (hbase : base ≤ w.heap.size)
  (h : ∀ v' w', SpRow w' base v' (l ++ news) → Below base w w' → K (a.put o.dst v') w') : o.wp Tryz.prog a w K Q := by
 obtain ⟨au, cu, hu, h1, h2, h3⟩ := hsrc
 by_cases hn : news = []
 ·subst hn
  obtain ⟨i0, hi, hz0, hz1, hz2⟩ := info_parts infoSp
  obtain ⟨va, vc, hv, hle⟩ : ∃ va vc, v = .slice va l.length vc ∧ l.length ≤ vc := by
   rcases row_openO hown with ⟨e, h0⟩ | ⟨g, cap, e, k1, k2, k3, k4, k5, k6⟩
   ·exact ⟨none, 0, by rw [h0]; exact e, by omega⟩
   ·exact ⟨_, cap, e, k3⟩
  have hS : Src Tryz.prog i0.size 169 u 0 [] w := by
   subst hu
   cases au with
   | none => exact Src.ofNil w Tryz.underlying169 cu
   | some ad => exact Src.ofSlice w Tryz.underlying169 ad 0 cu [] (by simp) (fun j u h => by simp at h) (fun _ h => by cases h)
  have hr := run_append_nothing (P := Tryz.prog) w 169 169 o.type 175 i0 Tryz.underlying169 hi va l.length vc hle u hS
  unfold Oper.wp execOp
  simp only [ho, resolve, invoke, builtin, Sem.run_bind, Sem.run_pure, Result.andThen_ok, List.map_toArray, List.map_cons, List.map_nil, hs, hx, hv, hr]
  exact h _ w (by rw [List.append_nil, ← hv]; exact hown) (Below.refl _ _)
 ·obtain ⟨g, off, rfl, hg, hc⟩ := h3 hn
  refine wp_appGm s x 169 175 nilSp 22 344 Tryz.underlying169 infoSp rfl (by decide) (by decide) ho base l.length v (l.flatMap spcs) (news.flatMap spcs) hs hown g off news.length cu (spcs_all news) (hx.trans hu) hc
   (fun u hu => by rw [List.mem_flatMap] at hu; obtain ⟨y, _, hu⟩ := hu; exact spcs_one y u hu) hlen hbase (fun v' w' k1 k2 _ => h v' w' ?_ (grown_below k2 hbase hown.own))
  unfold SpRow
  rw [List.length_append, List.flatMap_append]
  exact k1
theorem wpList_appSp (hgd : o.guard = none) (s x : Operand)
  (ho : o.op = .call { callee := .builtin .append, args := #[s, x], argTypes := #[169, 169] })
  (base : Nat) (v : Value) (l : List Spt) (hs : a.eval s = v) (hown : SpRow w base v l)
  (u : Value) (news : List Spt) (hx : a.eval x = u) (hsrc : SpL w u news)
  (hlen : l.length + news.length ≤ 1000000) (hbase : base ≤ w.heap.size)
  (h : ∀ v' w', SpRow w' base v' (l ++ news) → Below base w w' → wpList Tryz.prog ops Q rest (a.put o.dst v') w') : wpList Tryz.prog ops Q (o :: rest) a w :=
 wpList_plain hgd fun _ hK => wp_appSp s x ho base v l hs hown u news hx hsrc hlen hbase fun v' w' h2 h3 => hK _ _ (h v' w' h2 h3)
end
theorem sp_one {w : World} {b : Nat} (x : Spt) (h : Blk w b (spcs x).toArray) : SpL w (.slice (some ⟨b, 0, none⟩) 1 1) [x] :=
 ⟨_, 1, rfl, Nat.le_refl _, by unfold maxLen; omega, fun _ => ⟨b, 0, rfl, h.lt, by
  have := h.range
  simpa [List.flatMap_cons] using this⟩⟩
def SpotO (W : World) (l : List Spt) (e : Ending) (w' : World) : Prop := ∃ u, e = .returned u ∧ SpRow w' W.heap.size u l ∧ Below W.heap.size W w'
theorem spot_any (place : Bs) (kind : Int) (path val : Bs) (kid : Nat → Bs) (hf : fineR kind path val kid = true) (hp : path.length ≤ 1000) (v : Value) (l : List Spt) (hl : l.length ≤ 900000) (w : World) (hv : SpL w v l) :
  Calls Tryz.prog 156 #[.string ⟨List.toArray place⟩, .agg (nd kind path val kid).toArray, v] w (SpotO w (⟨place, kind, path, val, kid⟩ :: l)) := by
 have B0 := Blk.new w (nd kind path val kid).toArray 173
 have hb0 : Below w.heap.size w (w.alloc (.cells (nd kind path val kid).toArray 173)) := Below.allocS (Below.refl _ _) _
 have q1 := fun (X : World) => writ_any kind path val kid hf X
 have q2 := fun (X : World) => rdigest_any kind path val kid hp X
 have hs : spcs ⟨place, kind, path, val, kid⟩ = .string ⟨List.toArray place⟩ :: .string ⟨List.toArray ((enc kind path val kid))⟩ :: .string ⟨List.toArray ((dgP kind path val kid))⟩ :: nd kind path val kid := rfl
 generalize ht : enc kind path val kid = tx at *
 generalize hd : dgP kind path val kid = dg at *
 have HS := Lib.hid hs
 have hv1 := hv.keep hb0
 clear hs ht hd hf hp hv
 go_enter Tryz.func156, Tryz.ntmps156
 go_wp2_with fail
 have hwl : w.heap.size < (w.alloc (.cells (nd kind path val kid).toArray 173)).heap.size := by simp
 generalize w.alloc (.cells (nd kind path val kid).toArray 173) = W at *
 refine wpH_start (by kernel_rfl) (fun hS => ?_)
 (refine hP 0 ?_ ⟨some 8, .move (.tmp 7), 169, "", #[], none⟩ hS ?_ ?_; rotate_left; focus (intro w; go_simp; try with_reducible rfl))
 try simp only [pna, pnb, pnc, pnd, pne]
 (refine hP 1 ?_ ⟨some 9, .move (.tmp 0), 9, "", #[], none⟩ hS ?_ ?_; rotate_left; focus (intro w; go_simp; try with_reducible rfl))
 try simp only [pna, pnb, pnc, pnd, pne]
 refine wpH_row row_node 2 (oi := { dst := some 10, op := Op.load 173 (Operand.tmp 4), type := 173, pos := "ref.go:100", after := #[], guard := none }) rfl (by kernel_rfl) (by kernel_rfl) (by kernel_rfl) (by rfl) hS (vs := nd kind path val kid) (fun _ _ _ h => h) (.tmp 4) rfl rfl (nd_len _ _ _ _) (fun w' hb2 => B0.keep hb2) ?_
 try simp only [pna, pnb, pnc, pnd, pne]
 refine wpH_row row_node 4 (oi := { dst := some 12, op := Op.load 173 (Operand.tmp 4), type := 173, pos := "ref.go:100", after := #[], guard := none }) rfl (by kernel_rfl) (by kernel_rfl) (by kernel_rfl) (by rfl) hS (vs := nd kind path val kid) (fun _ _ _ h => h) (.tmp 4) rfl rfl (nd_len _ _ _ _) (fun w' hb2 => B0.keep hb2) ?_
 try simp only [pna, pnb, pnc, pnd, pne]
 refine wpH_row row_node 6 (oi := { dst := some 14, op := Op.load 173 (Operand.tmp 4), type := 173, pos := "ref.go:100", after := #[], guard := none }) rfl (by kernel_rfl) (by kernel_rfl) (by kernel_rfl) (by rfl) hS (vs := nd kind path val kid) (fun _ _ _ h => h) (.tmp 4) rfl rfl (nd_len _ _ _ _) (fun w' hb2 => B0.keep hb2) ?_
 try simp only [pna, pnb, pnc, pnd, pne]
 refine wpH_call 3 (oi := { dst := some 11, op := Op.call { callee := Callee.value (Operand.func 170), args := #[Operand.tmp 10], argTypes := #[173] }, type := 9, pos := "ref.go:100", after := #[{ on := 2, ground := Ground.data }], guard := none }) rfl (by kernel_rfl) (by rfl) (q1 _) ?_ ?_
 ·(go_simp; try rfl)
 rintro e w' ⟨rfl, hbx⟩
 refine ⟨_, rfl, hS.trans (hbx.mono hS.size), ?_⟩
 replace hS := hS.trans (hbx.mono hS.size)
 try simp only [pna, pnb, pnc, pnd, pne]
 refine wpH_call 5 (oi := { dst := some 13, op := Op.call { callee := Callee.value (Operand.func 171), args := #[Operand.tmp 12], argTypes := #[173] }, type := 9, pos := "ref.go:100", after := #[{ on := 4, ground := Ground.data }, { on := 3, ground := Ground.chain }], guard := none }) rfl (by kernel_rfl) (by rfl) (q2 _) ?_ ?_
 ·(go_simp; try rfl)
 rintro e w' ⟨rfl, hbx⟩
 refine ⟨_, rfl, hS.trans (hbx.mono hS.size), ?_⟩
 replace hS := hS.trans (hbx.mono hS.size)
 try simp only [pna, pnb, pnc, pnd, pne]
 refine wpH_load 7 (.agg (spcs ⟨place, kind, path, val, kid⟩).toArray) (oi := { dst := some 15, op := Op.build 175 #[(0, Operand.tmp 9), (1, Operand.tmp 11), (2, Operand.tmp 13), (3, Operand.tmp 14)], type := 175, pos := "ref.go:100", after := #[{ on := 1, ground := Ground.data }, { on := 3, ground := Ground.data }, { on := 5, ground := Ground.data }, { on := 6, ground := Ground.data }], guard := none }) rfl (by kernel_rfl) (by kernel_rfl) (by kernel_rfl) (by rfl) hS (fun _ _ _ h => h) (fun w' hb2 => (by rw [HS.out]; kernel_rfl)) ?_
 try simp only [pna, pnb, pnc, pnd, pne]
 refine wpH_op 8 (oi := { dst := some 16, op := Op.buildSlice 169 1 #[(0, Operand.tmp 15)], type := 169, pos := "ref.go:100", after := #[{ on := 7, ground := Ground.data }], guard := none }) rfl (by kernel_rfl) (by rfl) ?_
 refine wp_newK 175 (spcs ⟨place, kind, path, val, kid⟩).toArray (fun k => .slice (some ⟨k, 0, none⟩) 1 1) (fun W2 => (by kernel_rfl)) ?_
 intro k3 w3 hk3 hh3 hl3 hb3
 refine ⟨hS.trans (hb3.mono hS.size), ?_⟩
 replace hS := hS.trans (hb3.mono hS.size)
 try simp only [pna, pnb, pnc, pnd, pne]
 refine wpH_op 9 (oi := { dst := some 17, op := Op.call { callee := Callee.builtin Builtin.append, args := #[Operand.tmp 8, Operand.tmp 16], argTypes := #[169, 169] }, type := 169, pos := "ref.go:100", after := #[{ on := 0, ground := Ground.data }, { on := 8, ground := Ground.data }, { on := 5, ground := Ground.chain }], guard := none }) rfl (by kernel_rfl) (by rfl) ?_
 refine wp_appSp (.tmp 8) (.tmp 16) rfl W.heap.size (.slice none 0 0) [] rfl (SpRow.nil _ _) _ [⟨place, kind, path, val, kid⟩] rfl (sp_one _ (Blk.of_heap hh3 hl3)) (by simp) hS.size ?_
 intro v5 w5 hr5 hb5
 refine ⟨hS.trans hb5, ?_⟩
 replace hS := hS.trans hb5
 try simp only [pna, pnb, pnc, pnd, pne]
 (refine hP 10 ?_ ⟨some 7, .assign (.tmp 17), 169, "", #[], none⟩ hS ?_ ?_; rotate_left; focus (intro w; go_simp; try with_reducible rfl))
 try simp only [pna, pnb, pnc, pnd, pne]
 refine wpAnyH_done (by kernel_rfl) ?_ _
 rw [List.nil_append] at hr5
 clear hh3 hl3 hk3 hb3 hbx B0 HS q1 q2
 go_wp2_with (first
 | (at_builtin; refine wpList_appSp rfl (.tmp 18) (.tmp 19) rfl w.heap.size _ [⟨place, kind, path, val, kid⟩] rfl (hr5.low (Nat.le_of_lt hwl)) _ l rfl (hv1.keep hS) (by simp; omega) (by have := hS.size; omega) ?_; intro v6 w6 hr6 hb6)
 | fail)
 go_ret
 exact ⟨v6, rfl, hr6, (hb0.trans (hS.mono (Nat.le_of_lt hwl))).trans hb6⟩
end Go.Proofs.YthkpmlfaddlieaaGreatDoor
namespace Go.Proofs.YthkpmlfaddlieaaGreatDoor
open Go.RowKit Pl
namespace Pl
theorem common_eqR : ∀ (k : Nat) (a b : Bs), a.take k = b.take k → k ≤ a.length → k ≤ b.length → (∀ (h1 : k < a.length) (h2 : k < b.length), a[k] ≠ b[k]) → common a b = k
 | 0, [], b, _, _, _, _ => by simp [common]
 | 0, x :: r, [], _, _, _, _ => by simp [common]
 | 0, x :: r, y :: s, _, _, _, h => by
  have := h (by simp) (by simp)
  simp at this
  simp [common, this]
 | k + 1, [], b, _, h, _, _ => by simp at h
 | k + 1, x :: r, [], _, _, h, _ => by simp at h
 | k + 1, x :: r, y :: s, h1, h2, h3, h4 => by
  simp at h1 h2 h3
  obtain ⟨rfl, h1⟩ := h1
  have := common_eqR k r s h1 h2 h3 (fun a b => by
   have := h4 (by simp; omega) (by simp; omega)
   simpa using this)
  simp [common, this]
end Pl
theorem rcommon_any (a b : Bs) (ha : a.length ≤ 9223372036854775806) (hb : b.length ≤ 9223372036854775806) (w : World) :
  Calls Tryz.prog 157 #[.string ⟨List.toArray a⟩, .string ⟨List.toArray b⟩] w fun e w' => e = .returned (.int .i64 ((common a b : Nat))) ∧ ∃ n, w' = w.drewN n := by
 generalize hc : common a b = c
 have HC := Lib.hid hc
 clear hc
 go_enter Tryz.func157, Tryz.ntmps157
 go_wp2_with fail
 go_loopw [5] (fun s5 wr => ∃ k : Nat, s5 = .int .i64 k ∧ k ≤ a.length ∧ k ≤ b.length ∧ Hid (a.take k = b.take k) ∧ ∃ n, wr = w.drewN n) (fun s5 _ => a.length - (intOf s5).toNat)
 case atStart => exact ⟨0, rfl, by omega, by omega, Lib.hid (by simp), 0, rfl⟩
 case round =>
  obtain ⟨k, rfl, hka, hkb, HT, nq, rfl⟩ := hrel
  by_cases h1 : k < a.length
  ·have d1 : decide ((k : Int) < (a.length : Int)) = true := by simp; omega
   by_cases h2 : k < b.length
   ·have d2 : decide ((k : Int) < (b.length : Int)) = true := by simp; omega
    have i1 : (k : Int) < (a.length : Int) := by omega
    have i2 : (k : Int) < (b.length : Int) := by omega
    have hx := a[k].toNat_lt
    have hy := b[k].toNat_lt
    have HS : Hid (a.take (k + 1) = b.take (k + 1) ↔ a[k] = b[k]) := Lib.hid (by
     rw [List.take_succ_eq_append_getElem h1, List.take_succ_eq_append_getElem h2, HT.out, List.append_cancel_left_eq]
     simp)
    by_cases h3 : a[k] = b[k]
    ·have HT2 := Lib.hid (HS.out.2 h3)
     have e3 : ((a[k].toNat : Int) == (b[k].toNat : Int)) = true := by rw [h3]; simp
     clear h3 HS
     go_wp2_with fail
     go_quiet (fail)
     go_wp2_with fail
     exact ⟨⟨k + 1, by go_num, by omega, by omega, HT2, _, rfl⟩, by simp [intOf]; omega⟩
    ·have e3 : ((a[k].toNat : Int) == (b[k].toNat : Int)) = false := by
      rw [beq_eq_false_iff_ne]
      intro e
      exact h3 (UInt8.toNat_inj.1 (by omega))
     have HZ : Hid (c = k) := Lib.hid (by rw [← HC.out]; exact common_eqR k a b HT.out hka hkb (fun _ _ => h3))
     clear h3 HS
     go_wp2_with fail
     go_quiet (fail)
     go_wp2_with fail
     go_ret
     exact ⟨by rw [HZ.out]; rfl, _, World.drewN_drewN _ _ _⟩
   ·have d2 : decide ((k : Int) < (b.length : Int)) = false := by simp; omega
    have HZ : Hid (c = k) := Lib.hid (by rw [← HC.out]; exact common_eqR k a b HT.out hka hkb (fun _ h => absurd h h2))
    go_wp2_with fail
    go_quiet (fail)
    go_wp2_with fail
    go_ret
    exact ⟨by rw [HZ.out]; rfl, _, World.drewN_drewN _ _ _⟩
  ·have d1 : decide ((k : Int) < (a.length : Int)) = false := by simp; omega
   have HZ : Hid (c = k) := Lib.hid (by rw [← HC.out]; exact common_eqR k a b HT.out hka hkb (fun h => absurd h h1))
   go_wp2_with fail
   go_quiet (fail)
   go_wp2_with fail
   go_ret
   exact ⟨by rw [HZ.out]; rfl, _, World.drewN_drewN _ _ _⟩
namespace Pl
theorem less_take (c : Nat) (l : List It) (i : Nat) (hi : i < l.length) : lessI c (l.take (i + 1)) = lessI c (l.take i) ++ [((l.getD i ([], [])).1.drop c, (l.getD i ([], [])).2)] := by
 unfold lessI
 rw [takeI l i hi, List.map_append]
 rfl
end Pl
def IRowO (W : World) (l : List It) (e : Ending) (w' : World) : Prop := ∃ u, e = .returned u ∧ IRow w' W.heap.size u l ∧ Below W.heap.size W w'
theorem rless_any (v : Value) (l : List It) (c : Nat) (hc : ∀ i, i < l.length → c ≤ ((l.getD i ([], [])).1).length) (hb : ∀ i, i < l.length → ((l.getD i ([], [])).1).length ≤ 1000) (hl : l.length ≤ 1000000) (w : World) (hv : IL w v l) :
  Calls Tryz.prog 158 #[v, .int .i64 c] w (IRowO w (lessI c l)) := by
 obtain ⟨va, vc, rfl⟩ := hv.form
 have HV := Lib.hid hv
 have HC := Lib.hid hc
 have HB := Lib.hid hb
 clear hv hc hb
 go_enter Tryz.func158, Tryz.ntmps158
 go_wp2_with fail
 go_loopw [5, 6] (fun s5 s6 wr => ∃ i : Nat, s6 = .int .i64 i ∧ i ≤ l.length ∧ Hid (IRow wr w.heap.size s5 (lessI c (l.take i))) ∧ Below w.heap.size w wr) (fun _ s6 _ => l.length - (intOf s6).toNat)
 case atStart => exact ⟨0, rfl, Nat.zero_le _, Lib.hid (by simpa [lessI] using IRow.nil _ _), Below.refl _ _⟩
 case round =>
  obtain ⟨i, rfl, hi, HR, hb⟩ := hrel
  rename_i wr
  by_cases hlt : i < l.length
  ·have i1 : decide ((i : Int) < (l.length : Int)) = true := by simp; omega
   have i2 : (i : Int) < (l.length : Int) := by omega
   obtain ⟨g, off, e1, hg, c1, c2⟩ := (HV.out.keep hb).at i hlt
   have hcl := HC.out i hlt
   have hbl := HB.out i hlt
   have HT := Lib.hid (less_take c l i hlt)
   have HLL : Hid ((lessI c (l.take i)).length = i) := Lib.hid (by rw [less_len, List.length_take]; omega)
   generalize l.getD i ([], []) = x at *
   obtain ⟨xk, xv⟩ := x
   simp only at c1 c2 hcl hbl HT
   subst e1
   have hci : (c : Int) ≤ (xk.length : Int) := by omega
   rw [show xk.drop c = (xk.drop c).take (xk.length - c) from (List.take_of_length_le (by rw [List.length_drop]; omega)).symm] at HT
   go_wp2_with fail
   go_region_law (refine step_appI rfl (.tmp 13) (.tmp 27) rfl w.heap.size _ (lessI c (l.take i)) rfl (HR.out.keep (Below.allocS (Below.refl _ _) _).drew) wr.heap.size 0 1 1 [((xk.drop c).take (xk.length - c), xv)] rfl rfl (isrc1 wr ((xk.drop c).take (xk.length - c)) xv 203) (by rw [HLL.out]; omega) (by have := hb.size; simp; omega) ?_; rintro v' w2 hB2 hb2)
   all_goals go_wp2_with fail
   all_goals exact ⟨⟨i + 1, by go_num, by omega, Lib.hid (by rw [HT.out]; exact hB2), (Below.allocS hb _).drew.trans hb2⟩, by simp [intOf] <;> omega⟩
  ·have e1 : i = l.length := by omega
   subst e1
   have i1 : decide ((l.length : Int) < (l.length : Int)) = false := by simp
   have HA' : Hid (lessI c (l.take l.length) = lessI c l) := Lib.hid (by rw [List.take_length])
   go_wp2_with fail
   go_ret
   exact ⟨_, rfl, by rw [← HA'.out]; exact HR.out, hb⟩
end Go.Proofs.YthkpmlfaddlieaaGreatDoor
namespace Go.Proofs.YthkpmlfaddlieaaGreatDoor
open Go.RowKit Go.Shelf Pl
theorem SpotO.nil (w : World) : SpotO w [] (.returned (.slice none 0 0)) w := ⟨_, rfl, SpRow.nil _ _, Below.refl _ _⟩
def GrOk (n : Nat) : Prop := ∀ (l : List It) (p : Bs), GoodG n l → l.length ≤ 1024 → p.length + 17 * n ≤ 1000 → ∀ (v : Value) (w : World), IL w v l → Calls Tryz.prog 134 #[v, .string ⟨List.toArray p⟩] w (SpotO w (gr n l p))
theorem rgrown_nil (p : Bs) (v : Value) (w : World) (hv : IL w v []) : Calls Tryz.prog 134 #[v, .string ⟨List.toArray p⟩] w (SpotO w []) := by
 obtain ⟨va, vc, rfl⟩ := hv.form
 clear hv
 go_enter Tryz.func134, Tryz.ntmps134
 go_wp2_with fail
 go_ret
 exact SpotO.nil w
theorem rgrown_one (n : Nat) (l : List It) (p : Bs) (hn : n + 1 ≤ 17) (hG : GoodG (n + 1) l) (h1 : l.length = 1) (v : Value) (w : World) (hv : IL w v l) : Calls Tryz.prog 134 #[v, .string ⟨List.toArray p⟩] w (SpotO w (gr (n + 1) l p)) := by
 have hfi := (gr_fine (n + 1) l p hn hG).1
 rw [show gr (n + 1) l p = [⟨p, 1, firstK l, val0 l, noK⟩] from by unfold gr; rw [if_neg (by omega), if_pos h1]] at hfi ⊢
 have hf : fineR 1 (firstK l) (val0 l) noK = true := hfi ⟨p, 1, firstK l, val0 l, noK⟩ (List.mem_singleton.2 rfl)
 have hpl : (firstK l).length ≤ 1000 := by have := (hG.2 _ (it_mem (l := l) (i := 0) (by omega))).2.1; have e : (l.getD 0 i0).1.length = (firstK l).length := rfl; omega
 obtain ⟨va, vc, rfl⟩ := hv.form
 obtain ⟨g, off, e1, hg, c1, c2⟩ := hv.at 0 (by omega)
 subst e1
 have hc1 : w.cell? ⟨g, off, none⟩ = some (.string ⟨List.toArray ((firstK l))⟩) := c1
 have hc2 : w.cell? ⟨g, off + 1, none⟩ = some (.string ⟨List.toArray ((val0 l))⟩) := c2
 have q1 := fun (W : World) => spot_any p 1 (firstK l) (val0 l) noK hf hpl (.slice none 0 0) [] (by simp) W (SpL.nil _)
 generalize firstK l = a at *
 generalize val0 l = b at *
 rw [h1]
 clear hfi hG h1 hv c1 c2 hf
 go_enter Tryz.func134, Tryz.ntmps134
 go_wp2_with fail
 refine wpH_start (by kernel_rfl) (fun hS => ?_)
 (refine hP 0 ?_ ⟨some 20, .move (.tmp 1), 9, "", #[], none⟩ hS ?_ ?_; rotate_left; focus (intro w; go_simp; try with_reducible rfl))
 try simp only [pna, pnb, pnc, pnd, pne]
 (refine hP 1 ?_ ⟨some 21, .move (.tmp 0), 38, "", #[], none⟩ hS ?_ ?_; rotate_left; focus (intro w; go_simp; try with_reducible rfl))
 try simp only [pna, pnb, pnc, pnd, pne]
 (refine hP 2 ?_ ⟨some 22, .indexAddr 38 (.tmp 21) (.const (.int .i64 0)), 0, "", #[], none⟩ hS ?_ ?_; rotate_left; focus (intro w; go_simp; try with_reducible rfl))
 try simp only [pna, pnb, pnc, pnd, pne]
 (refine hP 3 ?_ ⟨some 23, .fieldAddr 203 (.tmp 22) 0, 0, "", #[], none⟩ hS ?_ ?_; rotate_left; focus (intro w; go_simp; try with_reducible rfl))
 try simp only [pna, pnb, pnc, pnd, pne]
 refine wpH_load 4 (.string ⟨List.toArray a⟩) (oi := { dst := some 24, op := Op.load 9 (Operand.tmp 23), type := 9, pos := "ref.go:110", after := #[{ on := 3, ground := Ground.data }], guard := none }) rfl (by kernel_rfl) (by kernel_rfl) (by kernel_rfl) (by rfl) hS (fun _ _ _ h => h) (fun w' hb2 => (by have c := (hb2.cell (p := ⟨g, off, none⟩) hg).trans hc1; go_simp; try rfl)) ?_
 try simp only [pna, pnb, pnc, pnd, pne]
 (refine hP 5 ?_ ⟨some 25, .move (.tmp 0), 38, "", #[], none⟩ hS ?_ ?_; rotate_left; focus (intro w; go_simp; try with_reducible rfl))
 try simp only [pna, pnb, pnc, pnd, pne]
 (refine hP 6 ?_ ⟨some 26, .indexAddr 38 (.tmp 25) (.const (.int .i64 0)), 0, "", #[], none⟩ hS ?_ ?_; rotate_left; focus (intro w; go_simp; try with_reducible rfl))
 try simp only [pna, pnb, pnc, pnd, pne]
 (refine hP 7 ?_ ⟨some 27, .fieldAddr 203 (.tmp 26) 1, 0, "", #[], none⟩ hS ?_ ?_; rotate_left; focus (intro w; go_simp; try with_reducible rfl))
 try simp only [pna, pnb, pnc, pnd, pne]
 refine wpH_load 8 (.string ⟨List.toArray b⟩) (oi := { dst := some 28, op := Op.load 9 (Operand.tmp 27), type := 9, pos := "ref.go:110", after := #[{ on := 7, ground := Ground.data }], guard := none }) rfl (by kernel_rfl) (by kernel_rfl) (by kernel_rfl) (by rfl) hS (fun _ _ _ h => h) (fun w' hb2 => (by have c := (hb2.cell (p := ⟨g, off + 1, none⟩) hg).trans hc2; go_simp; try rfl)) ?_
 try simp only [pna, pnb, pnc, pnd, pne]
 refine wpH_load 9 (.agg (nd 1 a b noK).toArray) (oi := { dst := some 29, op := Op.build 173 #[(0, Operand.const (Value.int IntKind.i64 1)), (1, Operand.tmp 24), (2, Operand.tmp 28)], type := 173, pos := "ref.go:110", after := #[{ on := 4, ground := Ground.data }, { on := 8, ground := Ground.data }], guard := none }) rfl (by kernel_rfl) (by kernel_rfl) (by kernel_rfl) (by rfl) hS (fun _ _ _ h => h) (fun w' hb2 => (by kernel_rfl)) ?_
 try simp only [pna, pnb, pnc, pnd, pne]
 refine wpH_call 10 (oi := { dst := some 30, op := Op.call { callee := Callee.value (Operand.func 156), args := #[Operand.tmp 20, Operand.tmp 29, Operand.const (Value.slice none 0 0)], argTypes := #[9, 173, 169] }, type := 169, pos := "ref.go:110", after := #[{ on := 0, ground := Ground.data }, { on := 9, ground := Ground.data }], guard := none }) rfl (by kernel_rfl) (by rfl) (q1 _) ?_ ?_
 ·(go_simp; try rfl)
 rintro e w' ⟨u, rfl, hr, hbx⟩
 refine ⟨_, rfl, hS.trans (hbx.mono hS.size), ?_⟩
 replace hS := hS.trans (hbx.mono hS.size)
 try simp only [pna, pnb, pnc, pnd, pne]
 (refine hP 11 ?_ ⟨some 4, .assign (.tmp 30), 169, "", #[], none⟩ hS ?_ ?_; rotate_left; focus (intro w; go_simp; try with_reducible rfl))
 try simp only [pna, pnb, pnc, pnd, pne]
 refine wpAnyH_done (by kernel_rfl) ?_ _
 go_wp2_with fail
 go_ret
 exact ⟨u, rfl, hr.low (Nat.le_refl _), hS⟩
theorem rgrown_ext (n : Nat) (ih : GrOk n) (l : List It) (p : Bs) (hn : n + 1 ≤ 17) (hG : GoodG (n + 1) l) (h2 : 2 ≤ l.length) (hl : l.length ≤ 1024) (hp : p.length + 17 * (n + 1) ≤ 1000) (hc : 0 < comI l) (v : Value) (w : World) (hv : IL w v l) :
  Calls Tryz.prog 134 #[v, .string ⟨List.toArray p⟩] w (SpotO w (gr (n + 1) l p)) := by
 have hfi := (gr_fine (n + 1) l p hn hG).1
 have hcl := com_all hG.1
 have hkl : ∀ i, i < l.length → ((l.getD i ([], [])).1).length ≤ 1000 := fun i hi => by have := (hG.2 _ (it_mem (l := l) hi)).2.1; have e : (l.getD i ([], [])).1.length = (l.getD i i0).1.length := rfl; omega
 have hgr : gr (n + 1) l p = ⟨p, 2, (firstK l).take (comI l), [], upd noK 0 (headS (gr n (lessI (comI l) l) (p ++ (firstK l).take (comI l))))⟩ :: gr n (lessI (comI l) l) (p ++ (firstK l).take (comI l)) := by
  conv => lhs; unfold gr
  rw [if_neg (by omega), if_neg (by omega), if_pos hc]
 rw [hgr] at hfi ⊢
 have hf := hfi _ (List.mem_cons_self ..)
 have hcf : comI l ≤ (firstK l).length := (hcl 0 (by omega)).2
 have hfk : (firstK l).length ≤ 16 := by have := (hG.2 _ (it_mem (l := l) (i := 0) (by omega))).2.1; have e : (l.getD 0 i0).1.length = (firstK l).length := rfl; omega
 have hne : gr n (lessI (comI l) l) (p ++ (firstK l).take (comI l)) ≠ [] := gr_ne (hG.less hc) (fun e => by have := less_len (comI l) l; rw [e] at this; simp at this; omega)
 have hcnt := gr_count n (lessI (comI l) l) (p ++ (firstK l).take (comI l))
 rw [less_len] at hcnt
 have hcn : (gr n (lessI (comI l) l) (p ++ (firstK l).take (comI l))).length ≤ 20000 := by
  have : n * l.length ≤ 16 * 1024 := Nat.mul_le_mul (by omega) hl
  omega
 have qi := ih (lessI (comI l) l) (p ++ (firstK l).take (comI l)) (hG.less hc) (by rw [less_len]; exact hl) (by rw [List.length_append, List.length_take]; omega)
 have ql := fun W (hb : Below w.heap.size w W) => rless_any v l (comI l) (fun i hi => (hcl i hi).2) hkl (by omega) W (hv.keep hb)
 obtain ⟨va, vc, rfl⟩ := hv.form
 obtain ⟨g, off, e1, hg, c1, _⟩ := hv.at 0 (by omega)
 subst e1
 obtain ⟨g', off', e2, _, c2, _⟩ := hv.at (l.length - 1) (by omega)
 injection e2 with e2
 injection e2 with e2 e3 _
 subst e2 e3
 have hc1 : w.cell? ⟨g, off, none⟩ = some (.string ⟨List.toArray ((firstK l))⟩) := c1
 have hc2 : w.cell? ⟨g, off + (l.length - 1) * 2, none⟩ = some (.string ⟨List.toArray ((lastK' l))⟩) := c2
 have qc := fun W => rcommon_any (firstK l) (lastK' l) (by omega) (by have := hkl (l.length - 1) (by omega); have e : (l.getD (l.length - 1) ([], [])).1.length = (lastK' l).length := rfl; omega) W
 rw [show common (firstK l) (lastK' l) = comI l from rfl] at qc
 have QI := Lib.hid qi
 have QL := Lib.hid ql
 have HNE := Lib.hid hne
 have HCN := Lib.hid hcn
 have HF := Lib.hid hf
 clear hfi hcl hkl hgr hf hcnt hne hcn qi ql ih hG c1 c2 hv
 generalize hGS : gr n (lessI (comI l) l) (p ++ (firstK l).take (comI l)) = GS at *
 clear hGS
 generalize lessI (comI l) l = LL at *
 generalize comI l = c at *
 generalize firstK l = a at *
 generalize lastK' l = z at *
 obtain ⟨m, hm⟩ : ∃ m, l.length = m + 2 := ⟨l.length - 2, by omega⟩
 rw [hm] at QL hc2 ⊢
 rw [show m + 2 - 1 = m + 1 from rfl] at hc2
 have i1 : (m : Int) + 2 ≤ 1024 := by omega
 clear hm hl h2
 go_enter Tryz.func134, Tryz.ntmps134
 go_wp2_with fail
 have i2 : (0 : Int) < (m : Int) + 2 := by omega
 have i3 : IntKind.i64.wrap ((m : Int) + 1) = (m : Int) + 1 := by rw [IntKind.wrap_i64]; omega
 have i7 : IntKind.i64.wrap ((m : Int) + 2 - 1) = (m : Int) + 1 := by rw [IntKind.wrap_i64]; omega
 have i4 : (m : Int) + 1 < (m : Int) + 2 := by omega
 have i5 : (0 : Int) ≤ (m : Int) + 1 := by omega
 have i6 : ((m : Int) + 1).toNat = m + 1 := by omega
 refine wp_held rfl (by kernel_rfl) ?_
 (refine qP ?_ ?_ ?_; rotate_left; focus (intro w; go_simp; try with_reducible rfl))
 try simp only [pna, pnb, pnc, pnd, pne]
 refine wpQ_pure (by rfl) (.pointer (some ⟨g, off, none⟩)) (fun w => (by go_simp; try simp only [i3, i7, i4, i5, i6, and_self, if_true])) ?_
 try simp only [pna, pnb, pnc, pnd, pne]
 (refine qP ?_ ?_ ?_; rotate_left; focus (intro w; go_simp; try with_reducible rfl))
 try simp only [pna, pnb, pnc, pnd, pne]
 refine wpQ_load (by rfl) (.string ⟨List.toArray a⟩) (fun w' hb2 => (by have c := (hb2.cell (p := ⟨g, off, none⟩) hg).trans hc1; go_simp; try rfl)) ?_
 try simp only [pna, pnb, pnc, pnd, pne]
 (refine qP ?_ ?_ ?_; rotate_left; focus (intro w; go_simp; try with_reducible rfl))
 try simp only [pna, pnb, pnc, pnd, pne]
 (refine qP ?_ ?_ ?_; rotate_left; focus (intro w; go_simp; try with_reducible rfl))
 try simp only [pna, pnb, pnc, pnd, pne]
 (refine qP ?_ ?_ ?_; rotate_left; focus (intro w; go_simp; try with_reducible rfl))
 try simp only [pna, pnb, pnc, pnd, pne]
 (refine qP ?_ ?_ ?_; rotate_left; focus (intro w; go_simp; try with_reducible rfl))
 try simp only [pna, pnb, pnc, pnd, pne]
 refine wpQ_pure (by rfl) (.pointer (some ⟨g, off + (m + 1) * 2, none⟩)) (fun w => (by go_simp; try simp only [i3, i7, i4, i5, i6, and_self, if_true])) ?_
 try simp only [pna, pnb, pnc, pnd, pne]
 (refine qP ?_ ?_ ?_; rotate_left; focus (intro w; go_simp; try with_reducible rfl))
 try simp only [pna, pnb, pnc, pnd, pne]
 refine wpQ_load (by rfl) (.string ⟨List.toArray z⟩) (fun w' hb2 => (by have c := (hb2.cell (p := ⟨g, off + (m + 1) * 2, none⟩) hg).trans hc2; go_simp; try rfl)) ?_
 try simp only [pna, pnb, pnc, pnd, pne]
 refine wpQ_call (by rfl) _ _ (.int .i64 c) (callD (fun w' hb => qc w')) (by intro w; go_simp; try rfl) ?_
 try simp only [pna, pnb, pnc, pnd, pne]
 (refine qP ?_ ?_ ?_; rotate_left; focus (intro w; go_simp; try with_reducible rfl))
 try simp only [pna, pnb, pnc, pnd, pne]
 intro w1 hb1
 have hc1 := (hb1.cell (p := ⟨g, off, none⟩) hg).trans hc1
 have hca : (c : Int) ≤ (a.length : Int) := by omega
 have hcp : (0 : Int) < (c : Int) := by omega
 have hpc : p.length + c ≤ 9223372036854775807 := by omega
 clear qc hc2 i3 i4 i5 i6 i7
 go_wp2_with fail
 refine wpH_start (by kernel_rfl) (fun hS => ?_)
 (refine hP 0 ?_ ⟨some 45, .move (.tmp 0), 38, "", #[], none⟩ hS ?_ ?_; rotate_left; focus (intro w; go_simp; try with_reducible rfl))
 try simp only [pna, pnb, pnc, pnd, pne]
 (refine hP 1 ?_ ⟨some 46, .move (.tmp 5), 3, "", #[], none⟩ hS ?_ ?_; rotate_left; focus (intro w; go_simp; try with_reducible rfl))
 try simp only [pna, pnb, pnc, pnd, pne]
 (refine hP 3 ?_ ⟨some 48, .move (.tmp 1), 9, "", #[], none⟩ hS ?_ ?_; rotate_left; focus (intro w; go_simp; try with_reducible rfl))
 try simp only [pna, pnb, pnc, pnd, pne]
 (refine hP 4 ?_ ⟨some 49, .move (.tmp 0), 38, "", #[], none⟩ hS ?_ ?_; rotate_left; focus (intro w; go_simp; try with_reducible rfl))
 try simp only [pna, pnb, pnc, pnd, pne]
 refine wpH_load 5 (.pointer (some ⟨g, off, none⟩)) (oi := { dst := some 50, op := Op.indexAddr 38 (Operand.tmp 49) (Operand.const (Value.int IntKind.i64 0)), type := 0, pos := "ref.go:114", after := #[{ on := 4, ground := Ground.data }], guard := none }) rfl (by kernel_rfl) (by kernel_rfl) (by kernel_rfl) (by rfl) hS (fun _ _ _ h => h) (fun w' hb2 => (by go_simp)) ?_
 try simp only [pna, pnb, pnc, pnd, pne]
 (refine hP 6 ?_ ⟨some 51, .fieldAddr 203 (.tmp 50) 0, 0, "", #[], none⟩ hS ?_ ?_; rotate_left; focus (intro w; go_simp; try with_reducible rfl))
 try simp only [pna, pnb, pnc, pnd, pne]
 refine wpH_load 7 (.string ⟨List.toArray a⟩) (oi := { dst := some 52, op := Op.load 9 (Operand.tmp 51), type := 9, pos := "ref.go:114", after := #[{ on := 6, ground := Ground.data }], guard := none }) rfl (by kernel_rfl) (by kernel_rfl) (by kernel_rfl) (by rfl) hS (fun _ _ _ h => h) (fun w' hb2 => (by have c := (hb2.cell (p := ⟨g, off, none⟩) (Nat.lt_of_lt_of_le hg hb1.size)).trans hc1; go_simp; try rfl)) ?_
 try simp only [pna, pnb, pnc, pnd, pne]
 (refine hP 8 ?_ ⟨some 53, .move (.tmp 5), 3, "", #[], none⟩ hS ?_ ?_; rotate_left; focus (intro w; go_simp; try with_reducible rfl))
 try simp only [pna, pnb, pnc, pnd, pne]
 refine wpH_load 9 (.string ⟨List.toArray (a.take c)⟩) (oi := { dst := some 54, op := Op.slice 9 (Operand.tmp 52) none (some (Operand.tmp 53)) none, type := 9, pos := "ref.go:114", after := #[{ on := 7, ground := Ground.data }, { on := 8, ground := Ground.data }], guard := none }) rfl (by kernel_rfl) (by kernel_rfl) (by kernel_rfl) (by rfl) hS (fun _ _ _ h => h) (fun w' hb2 => (by go_simp; try rfl)) ?_
 try simp only [pna, pnb, pnc, pnd, pne]
 refine wpH_load 10 (.string ⟨List.toArray (p ++ a.take c)⟩) (oi := { dst := some 55, op := Op.binOp BinOp.add 9 (Operand.tmp 48) (Operand.tmp 54) 9, type := 9, pos := "ref.go:114", after := #[{ on := 3, ground := Ground.data }, { on := 9, ground := Ground.data }], guard := none }) rfl (by kernel_rfl) (by kernel_rfl) (by kernel_rfl) (by rfl) hS (fun _ _ _ h => h) (fun w' hb2 => (by go_simp)) ?_
 try simp only [pna, pnb, pnc, pnd, pne]
 refine wpH_call 2 (oi := { dst := some 47, op := Op.call { callee := Callee.value (Operand.func 158), args := #[Operand.tmp 45, Operand.tmp 46], argTypes := #[38, 3] }, type := 38, pos := "ref.go:114", after := #[{ on := 0, ground := Ground.data }, { on := 1, ground := Ground.data }], guard := none }) rfl (by kernel_rfl) (by rfl) (QL.out _ (hb1.trans (hS.mono hb1.size))) ?_ ?_
 ·(go_simp; try rfl)
 rintro e w' ⟨uL, rfl, hrL, hbx⟩
 refine ⟨_, rfl, hS.trans (hbx.mono hS.size), ?_⟩
 replace hS := hS.trans (hbx.mono hS.size)
 try simp only [pna, pnb, pnc, pnd, pne]
 refine wpH_call 11 (oi := { dst := some 56, op := Op.call { callee := Callee.value (Operand.func 134), args := #[Operand.tmp 47, Operand.tmp 55], argTypes := #[38, 9] }, type := 169, pos := "ref.go:114", after := #[{ on := 2, ground := Ground.data }, { on := 10, ground := Ground.data }, { on := 2, ground := Ground.chain }], guard := none }) rfl (by kernel_rfl) (by rfl) (QI.out _ _ hrL.il) ?_ ?_
 ·(go_simp; try rfl)
 rintro e w' ⟨uG, rfl, hrG, hbx⟩
 refine ⟨_, rfl, hS.trans (hbx.mono hS.size), ?_⟩
 replace hS := hS.trans (hbx.mono hS.size)
 try simp only [pna, pnb, pnc, pnd, pne]
 (refine hP 12 ?_ ⟨some 6, .assign (.tmp 56), 169, "", #[], none⟩ hS ?_ ?_; rotate_left; focus (intro w; go_simp; try with_reducible rfl))
 try simp only [pna, pnb, pnc, pnd, pne]
 refine wpAnyH_done (by kernel_rfl) ?_ _
 have hb3 := hb1.trans (hS.mono hb1.size)
 have hG0 := hrG.sp
 have hGn : 0 < GS.length := by
  rcases hz : GS with _ | ⟨x, r⟩
  ·exact absurd hz HNE.out
  ·simp
 obtain ⟨ga, gc, rfl⟩ := hG0.form
 obtain ⟨gg, go, rfl, hgg, hgc⟩ := hG0.head HNE.out
 have i8 : (0 : Int) < (GS.length : Int) := by omega
 have hc3 := (hb3.cell (p := ⟨g, off, none⟩) hg).trans ((hb1.cell (p := ⟨g, off, none⟩) hg).symm.trans hc1)
 have HG := Lib.hid hG0
 have hqs := fun (v : Value) (W : World) (hv : SpL W v GS) => spot_any p 2 (a.take c) [] (upd noK 0 (headS GS)) HF.out (by rw [List.length_take]; omega) v GS (by have := HCN.out; omega) W hv
 have HQS := Lib.hid hqs
 clear hqs hrL hrG hbx QL QI hS hc1 hb1
 obtain ⟨wN, hwN⟩ := Below.name hb3
 subst hwN
 go_wp2_with (first
  | (refine wpList_rowStore row_node rfl rfl (.tmp 7) (.tmp 63) rfl rfl (vs := nd 2 (a.take c) [] noK) rfl (nd_len _ _ _ _) (nd_one _ _ _ _) (us := nd 0 [] [] noK) (nd_len _ _ _ _) (Blk.new' (by simp)) ?_; intro w4 N4 m4; have hb4 : Below wN.heap.size wN w4 := Below.mod (Below.allocS (Below.refl _ _) _) m4 (by simp) (by simp); have hgc4 := (hb4.cell (p := ⟨gg, go + 2, none⟩) hgg).trans hgc; clear hgc m4; obtain ⟨b1, b2, b3⟩ := id N4)
  | (refine wpList_rowLoad row_node rfl (.tmp 7) rfl rfl (vs := nd 2 (a.take c) [] (upd noK 0 (headS GS))) (nd_len _ _ _ _) (by have N5 := N4.set 3 (.string ⟨List.toArray ((headS GS))⟩); rw [show (3 : Nat) = 3 + 0 from rfl, nd_setk _ _ _ _ 0 (by omega)] at N5; exact N5) ?_; have hb5 : Below wN.heap.size wN (w4.setCell ⟨wN.heap.size, 3, none⟩ (.string ⟨List.toArray ((headS GS))⟩)) := Below.mod hb4 ((Mod.refl [wN.heap.size] w4).setCell (.inl (by simp)) _) hb4.size (by simp); clear b1 b2 b3 N4)
  | fail)
 refine (HQS.out _ _ (HG.out.keep hb5)).mono ?_
 rintro e w6 ⟨u6, rfl, hr6, hb6⟩
 go_wp2_with fail
 go_ret
 have hbw := hb3.trans (hb5.mono hb3.size)
 exact ⟨u6, rfl, hr6.low hbw.size, hbw.trans (hb6.mono hbw.size)⟩
theorem IL.tail {w : World} {g o n c : Nat} {l : List It} (h : IL w (.slice (some ⟨g, o, none⟩) n c) l) (h1 : 1 ≤ l.length) : IL w (.slice (some ⟨g, o + 2, none⟩) (l.length - 1) (c - 1)) (l.drop 1) := by
 obtain ⟨a, cap, e, k1, k2, k3⟩ := h
 injection e with e1 e2 e3
 subst e1 e3
 obtain ⟨g', o', e4, hg, hs⟩ := k3 (by intro e; rw [e] at h1; simp at h1)
 injection e4 with e4
 injection e4 with e4 e5 _
 subst e4 e5
 refine ⟨_, c - 1, by rw [List.length_drop], by rw [List.length_drop]; omega, by omega, fun _ => ⟨g, o + 2, rfl, hg, fun i hi => ?_⟩⟩
 rw [List.length_drop] at hi
 have := hs (1 + i) (by omega)
 rw [show (l.drop 1).getD i ([], []) = l.getD (1 + i) ([], []) from by simp [List.getD_eq_getElem?_getD, List.getElem?_drop, Nat.add_comm], show o + 2 + i * 2 = o + (1 + i) * 2 from by omega]
 exact this
def kidTo (f : Nat → List Spt) (i : Nat) : Nat → Bs := fun j => if j < i then headS (f j) else []
theorem kidTo_zero (f : Nat → List Spt) : kidTo f 0 = noK := by funext j; simp [kidTo, noK]
theorem kidTo_upd (f : Nat → List Spt) (i : Nat) : upd (kidTo f i) i (headS (f i)) = kidTo f (i + 1) := by
 funext j
 unfold upd kidTo
 by_cases h : j = i
 ·subst h; simp
 ·by_cases h2 : j < i
  ·simp [h, h2]; omega
  ·simp [h, h2]; omega
theorem kidTo_same (f : Nat → List Spt) (i : Nat) (h : f i = []) : kidTo f i = kidTo f (i + 1) := by
 funext j
 unfold kidTo
 by_cases h1 : j = i
 ·subst h1; simp [h, headS]
 ·by_cases h2 : j < i
  ·simp [h2]; omega
  ·simp [h2]; omega
theorem kidTo_all (f : Nat → List Spt) (k : Int) (p v : Bs) : nd k p v (kidTo f 16) = nd k p v (fun i => headS (f i)) := by
 have : ka (kidTo f 16) = ka (fun i => headS (f i)) := by
  unfold ka kidL
  rw [List.map_map, List.map_map]
  refine List.map_congr_left fun j hj => ?_
  have := List.mem_range.1 hj
  simp [kidTo, this]
 unfold nd
 rw [this]
structure BrQ (w : World) (f : Nat → List Spt) (L : List It) (p V : Bs) : Prop where
 fin : fineR 3 [] V (fun i => headS (f i)) = true
 call : ∀ i, i < 16 → ∀ (v : Value) (W : World), IL W v (lessI 1 (L.filter (startsB i))) → Calls Tryz.prog 134 #[v, .string ⟨List.toArray (p ++ [UInt8.ofNat i])⟩] W (SpotO W (f i))
 few : ∀ k, k ≤ 16 → ((List.range k).flatMap f).length ≤ 20000
 small : L.length ≤ 1024
 key : ∀ k, k < L.length → ∃ b r, (L.getD k ([], [])).1 = b :: r ∧ r.length ≤ 16
theorem brq (w : World) (n : Nat) (ih : GrOk n) (l : List It) (p : Bs) (hn : n + 1 ≤ 17) (hG : GoodG (n + 1) l) (h2 : 2 ≤ l.length) (hl : l.length ≤ 1024) (hp : p.length + 17 * (n + 1) ≤ 1000) (hc : comI l = 0) :
  BrQ w (fun i => gr n (lessI 1 ((restI l).filter (startsB i))) (p ++ [UInt8.ofNat i])) (restI l) p (valI l) ∧ gr (n + 1) l p = grB (fun i => gr n (lessI 1 ((restI l).filter (startsB i))) (p ++ [UInt8.ofNat i])) p (valI l) := by
 have hgr : gr (n + 1) l p = grB (fun i => gr n (lessI 1 ((restI l).filter (startsB i))) (p ++ [UInt8.ofNat i])) p (valI l) := by
  conv => lhs; unfold gr
  rw [if_neg (by omega), if_neg (by omega), if_neg (by omega)]
 have hrl : (restI l).length ≤ l.length := by
  unfold restI
  split
  ·rw [List.length_drop]; omega
  ·exact Nat.le_refl _
 have hfl : ∀ i, ((restI l).filter (startsB i)).length ≤ 1024 := fun i => Nat.le_trans (List.length_filter_le _ _) (Nat.le_trans hrl hl)
 refine ⟨⟨?_, fun i hi v W hv => ih _ _ (hG.part i) (by rw [less_len]; exact hfl i) (by simp; omega) v W hv, fun k hk => ?_, Nat.le_trans hrl hl, fun k hk => ?_⟩, hgr⟩
 ·have hfi := (gr_fine (n + 1) l p hn hG).1
  rw [hgr] at hfi
  exact hfi _ (List.mem_cons_self ..)
 ·have := flat_leG (fun i => gr n (lessI 1 ((restI l).filter (startsB i))) (p ++ [UInt8.ofNat i])) n (restI l) (fun i => by have := gr_count n (lessI 1 ((restI l).filter (startsB i))) (p ++ [UInt8.ofNat i]); rwa [less_len] at this) k
  have h3 : n * ((restI l).filter (preB k)).length ≤ 16 * 1024 := Nat.mul_le_mul (by omega) (Nat.le_trans (List.length_filter_le _ _) (Nat.le_trans hrl hl))
  omega
 ·have hm : (restI l).getD k i0 ∈ restI l := it_mem hk
  have h1 := restI_key hG.1 hm
  have h3 := (hG.2 _ (restI_sub hm)).2.1
  rcases hx : ((restI l).getD k i0).1 with _ | ⟨b, r⟩
  ·exact absurd hx h1
  ·rw [hx] at h3
   exact ⟨b, r, rfl, by simp at h3; omega⟩
theorem BrQ.part {w : World} {f : Nat → List Spt} {L : List It} {p V : Bs} (h : BrQ w f L p V) (i j : Nat) (hj : j < (L.filter (startsB i)).length) : 1 ≤ (((L.filter (startsB i)).getD j ([], [])).1).length ∧ (((L.filter (startsB i)).getD j ([], [])).1).length ≤ 1000 := by
 have hm : (L.filter (startsB i)).getD j i0 ∈ L.filter (startsB i) := it_mem hj
 obtain ⟨k, hk, e⟩ := mem_it (List.mem_filter.1 hm).1
 obtain ⟨b, r, hx, hr⟩ := h.key k hk
 have e2 : ((L.filter (startsB i)).getD j ([], [])).1 = b :: r := by rw [← hx]; exact (congrArg Prod.fst e).symm
 rw [e2]
 simp; omega
end Go.Proofs.YthkpmlfaddlieaaGreatDoor
