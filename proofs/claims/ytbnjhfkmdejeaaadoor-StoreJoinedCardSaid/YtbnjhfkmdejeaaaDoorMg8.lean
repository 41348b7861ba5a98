/- Orac. -/
import Derived.DeepKeys4
import Derived.Maps.OwnSet
import Derived.Test.YtbnjhfkmdejeaaaDoorMg3
import Derived.Test.YtbnjhfkmdejeaaaDoorMg7
set_option linter.unnecessarySimpa false

/- The table of signatures: New, Sign, Signed. -/
set_option linter.unusedSimpArgs false
set_option linter.unusedVariables false
namespace Go.Proofs.YtbnjhfkmdejeaaaDoor
open Go.RowKit Go.WideMaps Go.Maps Pl

theorem laidG : laidOutB Tryd.prog = true := by kernel_rfl
theorem rowG : (95 : TypeId) < Tryd.prog.types.size := of_decide_eq_true (by kernel_rfl)
theorem wideG : (match Tryd.prog.underlying 95 with | some (.array _ _) | some (.struct _) => true | _ => false) = true := by kernel_rfl
set_option maxRecDepth 100000 in
theorem keyedG : Keyed Tryd.prog 95 := Keyed.of_law (deep_law_laid laidG (m := 3) (by omega) rowG (by kernel_rfl) wideG)
theorem typesG : ∃ n, Tryd.prog.types.size = n + 1 + 1 := ⟨Tryd.prog.types.size - 2, by kernel_rfl⟩

/-- The key of a signer and a mark. -/
def kG (who mark : Bs) : Lit := .string (keyBytes [.string who, .string mark, .bool false])
theorem keyG (who mark : Bs) (h1 : who.length ≤ maxLen) (h2 : mark.length ≤ maxLen) : keyOf Tryd.prog 95 (.agg #[.string ⟨List.toArray (who)⟩, .string ⟨List.toArray (mark)⟩, .bool false]) = some (kG who mark) := by
  have hf : (Value.agg #[.string ⟨List.toArray (who)⟩, .string ⟨List.toArray (mark)⟩, .bool false]).formed Tryd.prog 95 = true := by
    have hc : Tryd.prog.cellsOf 95 = 3 := by kernel_rfl
    simp [Value.formed, Tryd.underlying95, hc]
  have hk : Tryd.prog.keyType 95 = true := by kernel_rfl
  obtain ⟨n, hn⟩ := typesG
  have hc : Tryd.prog.cellsOf 95 = 3 := by kernel_rfl
  have hs : Tryd.prog.cellsOf 9 = 1 := by kernel_rfl
  have hb : Tryd.prog.cellsOf 4 = 1 := by kernel_rfl
  have z1 : (⟨who.toArray⟩ : ByteArray).size ≤ maxLen := by simpa [ByteArray.size] using h1
  have z2 : (⟨mark.toArray⟩ : ByteArray).size ≤ maxLen := by simpa [ByteArray.size] using h2
  unfold keyOf
  rw [hn]
  simp [Tryd.underlying95, Tryd.underlying9, Tryd.underlying4, hf, hk, Program.keyLits, Value.cells, hc, hs, hb, z1, z2, kG]
theorem kG_inj {a b c d : Bs} (h1 : a.length ≤ maxLen) (h2 : b.length ≤ maxLen) (h3 : c.length ≤ maxLen) (h4 : d.length ≤ maxLen) (h : kG a b = kG c d) : a = c ∧ b = d := by
  have e1 := keyG a b h1 h2
  have e2 := keyG c d h3 h4
  rw [h] at e1
  have := keyedG.inj e1 e2
  injection this with this
  simpa using this

abbrev Sg := Bs × Bs × Bool
def keyOfS (x : Sg) : Bs × Bs := (x.1, x.2.1)
/-- Which place a signer and a mark have; the last first. -/
def idxD : List (Bs × Bs) → DataW Unit
  | [] => .map []
  | x :: r => (idxD r).put (kG x.1 x.2) (.lit (.int .i64 (r.length : Int)))
theorem idxD_map : ∀ r, IsMap (idxD r)
  | [] => ⟨[], rfl⟩
  | x :: r => (idxD_map r).put _ _
def Short (x : Bs × Bs) : Prop := x.1.length ≤ maxLen ∧ x.2.length ≤ maxLen
theorem idxD_has : ∀ (r : List (Bs × Bs)) (x : Bs × Bs), (∀ y ∈ r, Short y) → Short x → has (idxD r) (kG x.1 x.2) = decide (x ∈ r)
  | [], x, _, _ => by simp [idxD, has]
  | y :: r, x, h, hx => by
    have hy := h y (by simp)
    unfold idxD
    by_cases e : x = y
    · subst e
      rw [has_put_same (idxD_map r) (by first | trivial | exact rfl | simp [WideAt.IsKeyLit])]
      simp
    · rw [has_put_other (fun e2 => e (by obtain ⟨e3, e4⟩ := kG_inj hx.1 hx.2 hy.1 hy.2 e2; exact Prod.ext e3 e4)), idxD_has r x (fun z hz => h z (by simp [hz])) hx]
      simp [e]
/-- The place. -/
def idxOf : List (Bs × Bs) → Bs × Bs → Nat
  | [], _ => 0
  | y :: r, x => if x = y then r.length else idxOf r x
theorem idxD_at : ∀ (r : List (Bs × Bs)) (x : Bs × Bs), (∀ y ∈ r, Short y) → Short x → (idxD r).atKey (kG x.1 x.2) (.lit (.int .i64 0)) = .lit (.int .i64 (idxOf r x : Int))
  | [], x, _, _ => rfl
  | y :: r, x, h, hx => by
    have hy := h y (by simp)
    unfold idxD idxOf
    by_cases e : x = y
    · subst e
      rw [atKey_put_same (idxD_map r) (by first | trivial | exact rfl | simp [WideAt.IsKeyLit]), if_pos rfl]
    · rw [atKey_put_other (fun e2 => e (by obtain ⟨e3, e4⟩ := kG_inj hx.1 hx.2 hy.1 hy.2 e2; exact Prod.ext e3 e4)), idxD_at r x (fun z hz => h z (by simp [hz])) hx, if_neg e]

/-! rows of signatures -/
theorem infoG : (Tryd.prog.info? 95).map (fun i => (i.zero, i.size, i.bytes)) = some (some (.agg #[.string ⟨#[]⟩, .string ⟨#[]⟩, .bool false]), 3, 40) := by kernel_rfl
def gv : List Sg → List Value
  | [] => []
  | x :: r => .string ⟨List.toArray (x.1)⟩ :: .string ⟨List.toArray (x.2.1)⟩ :: .bool x.2.2 :: gv r
theorem gv_len (l : List Sg) : (gv l).length = l.length * 3 := by
  induction l with
  | nil => rfl
  | cons x r ih => simp only [gv, List.length_cons, ih]; omega
theorem gv_app (a b : List Sg) : gv (a ++ b) = gv a ++ gv b := by
  induction a with
  | nil => rfl
  | cons x r ih => simp [gv, ih]
abbrev sg0' : Sg := ([], [], false)
theorem gv_at : ∀ (l : List Sg) (i : Nat), i < l.length → (gv l)[i * 3]? = some (.string ⟨List.toArray ((l.getD i sg0').1)⟩) ∧ (gv l)[i * 3 + 1]? = some (.string ⟨List.toArray ((l.getD i sg0').2.1)⟩) ∧ (gv l)[i * 3 + 2]? = some (.bool (l.getD i sg0').2.2)
  | x :: r, 0, _ => ⟨rfl, rfl, rfl⟩
  | x :: r, i + 1, hi => by
    have h := gv_at r i (by simpa using hi)
    rw [show (i + 1) * 3 = i * 3 + 1 + 1 + 1 from by omega]
    simpa [gv] using h
theorem gone : ∀ (l : List Sg), ∀ u ∈ gv l, u.oneCell' = true
  | [], u, h => by simp [gv] at h
  | x :: r, u, h => by
    simp only [gv, List.mem_cons] at h
    rcases h with rfl | rfl | rfl | h
    · rfl
    · rfl
    · rfl
    · exact gone r u h
def GSrc (w : World) (g o : Nat) (l : List Sg) : Prop := ∀ i, i < l.length → w.cell? ⟨g, o + i * 3, none⟩ = some (.string ⟨List.toArray ((l.getD i sg0').1)⟩) ∧ w.cell? ⟨g, o + i * 3 + 1, none⟩ = some (.string ⟨List.toArray ((l.getD i sg0').2.1)⟩) ∧ w.cell? ⟨g, o + i * 3 + 2, none⟩ = some (.bool (l.getD i sg0').2.2)
/-- v is nil, or a slice of a block from base on, with these signatures. -/
def GRow (w : World) (base : Nat) (v : Value) (l : List Sg) : Prop := w.ownsRow base 95 3 v l.length (gv l)
theorem GRow.nil (w : World) (base : Nat) : GRow w base (.slice none 0 0) [] := ⟨rfl, .inl ⟨rfl, rfl⟩⟩
theorem GRow.cells {w : World} {base : Nat} {v : Value} {l : List Sg} (h : GRow w base v l) :
    (v = .slice none 0 0 ∧ l = []) ∨ ∃ g cap, v = .slice (some ⟨g, 0, none⟩) l.length cap ∧ base ≤ g ∧ g < w.heap.size ∧ l.length ≤ cap ∧ cap ≤ maxLen ∧ GSrc w g 0 l ∧ ∀ o, w.frozen? ⟨g, o, none⟩ = false := by
  rcases h.2 with ⟨h1, h2⟩ | ⟨g, cap, cur, hv, hb, hg, hn, hm, hc, ht⟩
  · exact .inl ⟨h1, List.length_eq_zero_iff.1 h2⟩
  · refine .inr ⟨g, cap, hv, hb, ?_, hn, hm, fun i hi => ?_, fun o => ?_⟩
    · rcases Nat.lt_or_ge g w.heap.size with hlt | hge
      · exact hlt
      · rw [Array.getElem?_eq_none hge] at hg; cases hg
    · have h1 : ∀ j, j < l.length * 3 → w.cell? ⟨g, 0 + j, none⟩ = (gv l)[j]? := by
        intro j hj
        rw [← ht, List.getElem?_take, if_pos hj]
        simp [World.cell?, hg]
      obtain ⟨h2, h3, h4⟩ := gv_at l i hi
      exact ⟨(h1 (i * 3) (by omega)).trans h2, (h1 (i * 3 + 1) (by omega)).trans h3, (h1 (i * 3 + 2) (by omega)).trans h4⟩
    · simp [World.frozen?, hg]
theorem GRow.form {w : World} {base : Nat} {v : Value} {l : List Sg} (h : GRow w base v l) : ∃ (a : Option Addr) (cap : Nat), v = .slice a l.length cap := by
  rcases h.cells with ⟨rfl, rfl⟩ | ⟨g, cap, rfl, _⟩
  · exact ⟨none, 0, rfl⟩
  · exact ⟨_, cap, rfl⟩
theorem GRow.own {w : World} {base : Nat} {v : Value} {l : List Sg} (h : GRow w base v l) : ∀ k, v.ownBlock = some k → base ≤ k ∧ k < w.heap.size := by
  intro k hk
  rcases h.cells with ⟨rfl, _⟩ | ⟨g, cap, rfl, hb, hg, _⟩
  · cases hk
  · cases hk; exact ⟨hb, hg⟩
theorem GRow.kept {w w' : World} {base : Nat} {v : Value} {l : List Sg} (h : GRow w base v l) (hb : ∀ k, v.ownBlock = some k → w'.heap[k]? = w.heap[k]?) : GRow w' base v l := by
  refine ⟨h.1, h.2.imp id ?_⟩
  rintro ⟨g, cap, cur, hv, h1, h2, h3⟩
  subst hv
  exact ⟨g, cap, cur, rfl, h1, (hb g rfl).trans h2, h3⟩
theorem GRow.keep {W w : World} {b : Nat} {v : Value} {l : List Sg} (h : GRow W b v l) (hb : Below W.heap.size W w) : GRow w b v l :=
  h.kept (fun k hk => hb.block k (h.own k hk).2)
theorem GRow.mod {w w' : World} {b : Nat} {v : Value} {l : List Sg} (h : GRow w b v l) {m : List Nat} (hm : Mod m w w') (hp : ∀ k, v.ownBlock = some k → k ∉ m) : GRow w' b v l :=
  h.kept (fun k hk => hm.block k (h.own k hk).2 (hp k hk))
theorem gsrc1 (w : World) (a b : Bs) (c : Bool) (t : TypeId) : GSrc (w.alloc (.cells #[.string ⟨List.toArray (a)⟩, .string ⟨List.toArray (b)⟩, .bool c] t)) w.heap.size 0 [(a, b, c)] := by
  intro i hi
  have : i = 0 := by simp at hi; omega
  subst this
  exact ⟨by simp, by simp, by simp⟩
theorem gsrc_news {w : World} {g o : Nat} {l : List Sg} (h : GSrc w g o l) : ∀ j u, (gv l)[j]? = some u → w.cell? ((⟨g, o, none⟩ : Addr).add j) = some u := by
  intro j u hj
  have hjl : j < l.length * 3 := by
    rcases Nat.lt_or_ge j (l.length * 3) with hlt | hge
    · exact hlt
    · rw [List.getElem?_eq_none (by rw [gv_len]; exact hge)] at hj; cases hj
  have hadd : (⟨g, o, none⟩ : Addr).add j = ⟨g, o + j, none⟩ := by unfold Addr.add; split <;> simp_all
  rw [hadd]
  obtain ⟨i, hi | hi | hi⟩ : ∃ i, j = i * 3 ∨ j = i * 3 + 1 ∨ j = i * 3 + 2 := ⟨j / 3, by omega⟩
  · subst hi
    exact (h i (by omega)).1.trans (((gv_at l i (by omega)).1).symm.trans hj)
  · subst hi
    have := (h i (by omega)).2.1
    rw [Nat.add_assoc] at this
    exact this.trans (((gv_at l i (by omega)).2.1).symm.trans hj)
  · subst hi
    have := (h i (by omega)).2.2
    rw [Nat.add_assoc] at this
    exact this.trans (((gv_at l i (by omega)).2.2).symm.trans hj)
section
variable {ops : Array Oper} {o : Oper} {a : Act} {w : World} {Q : Exit → Act → World → Prop}
theorem wp_appG {K : Act → World → Prop} (s x : Operand)
    (ho : o.op = .call { callee := .builtin .append, args := #[s, x], argTypes := #[32, 32] })
    (base : Nat) (v : Value) (l : List Sg) (hs : a.eval s = v) (hown : GRow w base v l)
    (g off m c : Nat) (news : List Sg) (hx : a.eval x = .slice (some ⟨g, off, none⟩) m c) (hm : news.length = m) (hsrc : GSrc w g off news)
    (hlen : l.length + m ≤ 1099511627000) (hbase : base ≤ w.heap.size)
    (h : ∀ v' w', GRow w' base v' (l ++ news) → Below base w w' → K (a.put o.dst v') w') : o.wp Tryd.prog a w K Q := by
  obtain ⟨i0, hi, hz0, hz1, hz2⟩ := info_parts infoG
  refine wp_append_own w s x 32 ho base 95 i0 (.agg #[.string ⟨#[]⟩, .string ⟨#[]⟩, .bool false]) 3 40 Tryd.underlying32 hi hz0 hz1 hz2 rfl (by decide) v l.length (gv l) hs hown ⟨g, off, none⟩ m c (gv news) hx (by rw [gv_len, hm]) (gsrc_news hsrc) (gone news)
    (by unfold maxLen; omega) (by omega) hbase (fun v' w' h2 h3 _ => h v' w' ?_ (grown_below h3 hbase (fun k hk => (hown.own k hk).1)))
  unfold GRow
  rw [List.length_append, hm, gv_app]
  exact h2
end

section
variable {ops : Array Oper} {o : Oper} {a : Act} {w : World} {Q : Exit → Act → World → Prop}
theorem wpList_appG {rest : List Oper} (hgd : o.guard = none) (s x : Operand)
    (ho : o.op = .call { callee := .builtin .append, args := #[s, x], argTypes := #[32, 32] })
    (base : Nat) (v : Value) (l : List Sg) (hs : a.eval s = v) (hown : GRow w base v l)
    (g off m c : Nat) (news : List Sg) (hx : a.eval x = .slice (some ⟨g, off, none⟩) m c) (hm : news.length = m) (hsrc : GSrc w g off news)
    (hlen : l.length + m ≤ 1099511627000) (hbase : base ≤ w.heap.size)
    (h : ∀ v' w', GRow w' base v' (l ++ news) → Below base w w' → wpList Tryd.prog ops Q rest (a.put o.dst v') w') : wpList Tryd.prog ops Q (o :: rest) a w :=
  wpList_plain hgd fun _ hK => wp_appG s x ho base v l hs hown g off m c news hx hm hsrc hlen hbase fun v' w' h2 h3 => hK _ _ (h v' w' h2 h3)
end

/-- The table at block p has these signatures, in the order in which they came. -/
def Tab (w : World) (base p : Nat) (L : List Sg) : Prop :=
  ∃ b sv, base ≤ b ∧ b < p ∧ Blk w p #[.map (some b), sv] ∧ w.ownsMap Tryd.prog 95 (plainElem Tryd.prog 3) b L.length (idxD (L.map keyOfS).reverse) ∧ GRow w (p + 1) sv L ∧ ∀ x ∈ L, x.1.length ≤ 6 ∧ x.2.1.length = 32
theorem Tab.keep {W w : World} {base p : Nat} {L : List Sg} (h : Tab W base p L) (hb : Below W.heap.size W w) : Tab w base p L := by
  obtain ⟨b, sv, h1, h2, h3, h4, h5, h6⟩ := h
  exact ⟨b, sv, h1, h2, h3.keep hb, ownsMap_keep h4 hb, h5.keep hb, h6⟩
theorem Tab.lt {w : World} {base p : Nat} {L : List Sg} (h : Tab w base p L) : p < w.heap.size ∧ base ≤ p := by
  obtain ⟨b, sv, h1, h2, h3, _⟩ := h
  exact ⟨h3.lt, by omega⟩
theorem short_of {a b : Bs} (h1 : a.length ≤ 1000) (h2 : b.length ≤ 1000) : Short (a, b) := ⟨by unfold maxLen; simp; omega, by unfold maxLen; simp; omega⟩

set_option maxRecDepth 100000 in
set_option maxHeartbeats 400000 in
theorem onew_any (w : World) :
    Calls Tryd.prog 41 #[] w fun e w' => e = .returned (.pointer (some ⟨w.heap.size + 1, 0, none⟩)) ∧ Tab w' w.heap.size (w.heap.size + 1) [] ∧ Below w.heap.size w w' := by
  have hmm := @run_makeMap Tryd.prog
  have hown : (w.alloc (.map #[] 0)).ownsMap (H := Unit) Tryd.prog 95 (plainElem Tryd.prog 3) w.heap.size 0 (.map []) := World.ownsMap_made _ _ _ _
  go_enter Tryd.func41, Tryd.ntmps41
  go_wp2_with fail
  go_ret
  refine ⟨rfl, ⟨w.heap.size, .slice none 0 0, Nat.le_refl _, by omega, ?_, hown.alloc _, GRow.nil _ _, fun x h => by simp at h⟩, ?_⟩
  · exact Blk.new' (by simp)
  · exact Below.allocS ((Below.refl _ _).alloc (Nat.le_refl _) _) _

set_option maxRecDepth 100000 in
set_option maxHeartbeats 400000 in
theorem okey_any (who mark : Bs) (w : World) :
    Calls Tryd.prog 55 #[.string ⟨List.toArray (who)⟩, .string ⟨List.toArray (mark)⟩] w fun e w' => e = .returned (.agg #[.string ⟨List.toArray (who)⟩, .string ⟨List.toArray (mark)⟩, .bool false]) ∧ Below w.heap.size w w' := by
  have B0 : Blk (w.alloc (.cells #[.string ⟨List.toArray ([])⟩, .string ⟨List.toArray ([])⟩, .bool false] 95)) w.heap.size #[.string ⟨List.toArray ([])⟩, .string ⟨List.toArray ([])⟩, .bool false] := Blk.new _ _ _
  go_enter Tryd.func55, Tryd.ntmps55
  go_wp2_with fail
  refine bodyPost_ret (results_cell1 rfl _ _ _ _ rfl (row_loadVar (vs := [.string ⟨List.toArray (who)⟩, .string ⟨List.toArray (mark)⟩, .bool false]) (RowT.mk' Tryd.underlying95 rfl (by kernel_rfl)) _ rfl (Blk.new _ _ _))) rfl ?_
  exact ⟨rfl, by (repeat (first | exact Below.refl _ _ | assumption | apply Below.drew | apply below_drewN | apply Below.allocS | (refine Below.setCell ?_ (by simp <;> omega) _) | (refine Below.alloc ?_ (by simp <;> omega) _) | (refine Below.trans ?_ (Below.mono (by assumption) (by simp <;> omega)))))⟩

/-- Is it there? -/
def isIn (L : List Sg) (who mark : Bs) : Bool := decide ((who, mark) ∈ L.map keyOfS)
set_option maxRecDepth 100000 in
theorem Tab.look {w : World} {base p b : Nat} {L : List Sg} {who mark : Bs} (h4 : w.ownsMap Tryd.prog 95 (plainElem Tryd.prog 3) b L.length (idxD (L.map keyOfS).reverse)) (h6 : ∀ x ∈ L, x.1.length ≤ 6 ∧ x.2.1.length = 32) (hw : who.length ≤ 1000) (hm : mark.length ≤ 1000) :
    (Instr.lookup 91 (.map (some b)) (.agg #[.string ⟨List.toArray (who)⟩, .string ⟨List.toArray (mark)⟩, .bool false]) true).run Tryd.prog w = .ok (.tuple #[.int .i64 ((idxOf (L.map keyOfS).reverse (who, mark) : Int)), .bool (isIn L who mark)]) w := by
  have hs := short_of hw hm
  have hsh : ∀ y ∈ (L.map keyOfS).reverse, Short y := by
    intro y hy
    simp only [List.mem_reverse, List.mem_map] at hy
    obtain ⟨x, hx, rfl⟩ := hy
    obtain ⟨q1, q2⟩ := h6 x hx
    exact short_of (by omega) (by omega)
  obtain ⟨v, ps, hrun, hR⟩ := h4.look_ok keyedG Tryd.underlying91 (zeroI _) (plainElem_int Tryd.underlying3 (by decide)) (keyG who mark hs.1 hs.2)
  rw [idxD_at _ (who, mark) hsh hs] at hR
  obtain ⟨c, rfl, hc, _⟩ := plainElem_int_inv Tryd.underlying3 hR
  rw [hrun, idxD_has _ (who, mark) hsh hs]
  injection hc with hc _
  injection hc with hc
  injection hc with _ hc
  rw [← hc]
  simp [isIn]
set_option maxRecDepth 100000 in
set_option maxHeartbeats 400000 in
theorem osigned_any (base p : Nat) (L : List Sg) (who mark : Bs) (hw : who.length ≤ 1000) (hm : mark.length ≤ 1000) (w : World) (hT : Tab w base p L) :
    Calls Tryd.prog 28 #[.pointer (some ⟨p, 0, none⟩), .string ⟨List.toArray (who)⟩, .string ⟨List.toArray (mark)⟩] w fun e w' => e = .returned (.bool (isIn L who mark)) ∧ Below w.heap.size w w' := by
  obtain ⟨b, sv, h1, h2, B, h4, h5, h6⟩ := hT
  have hlook : ∀ w', Below w.heap.size w w' → (Instr.lookup 91 (.map (some b)) (.agg #[.string ⟨List.toArray (who)⟩, .string ⟨List.toArray (mark)⟩, .bool false]) true).run Tryd.prog w' = .ok (.tuple #[.int .i64 ((idxOf (L.map keyOfS).reverse (who, mark) : Int)), .bool (isIn L who mark)]) w' := fun w' hb => Tab.look (base := base) (p := p) (ownsMap_keep h4 hb) h6 hw hm
  generalize isIn L who mark = q at *
  generalize (idxOf (L.map keyOfS).reverse (who, mark) : Int) = n at *
  go_enter Tryd.func28, Tryd.ntmps28
  go_wp2_with fail
  refine wpH_start (by kernel_rfl) (fun hS => ?_)
  (refine wpH_pure 0 ?_ (oi := { dst := some 10, op := Op.move (Operand.tmp 0), type := 31, pos := "oracle.go:44", after := #[], guard := none }) rfl (by kernel_rfl) (by kernel_rfl) (by kernel_rfl) (by rfl) hS (fun _ _ _ h => h) ?_ ?_; rotate_left; focus (intro w; go_simp; try with_reducible rfl))
  try simp only [Act.put, List.setIfInBounds_toArray, List.set_cons_zero, List.set_cons_succ]
  (refine wpH_pure 1 ?_ (oi := { dst := some 11, op := Op.nilCheck (Operand.tmp 10), type := 0, pos := "oracle.go:44", after := #[{ on := 0, ground := Ground.data }], guard := none }) rfl (by kernel_rfl) (by kernel_rfl) (by kernel_rfl) (by rfl) hS (fun _ _ _ h => h) ?_ ?_; rotate_left; focus (intro w; go_simp; try with_reducible rfl))
  try simp only [Act.put, List.setIfInBounds_toArray, List.set_cons_zero, List.set_cons_succ]
  (refine wpH_pure 2 ?_ (oi := { dst := some 12, op := Op.fieldAddr 93 (Operand.tmp 11) 0, type := 0, pos := "oracle.go:44", after := #[{ on := 1, ground := Ground.data }], guard := none }) rfl (by kernel_rfl) (by kernel_rfl) (by kernel_rfl) (by rfl) hS (fun _ _ _ h => h) ?_ ?_; rotate_left; focus (intro w; go_simp; try with_reducible rfl))
  try simp only [Act.put, List.setIfInBounds_toArray, List.set_cons_zero, List.set_cons_succ]
  refine wpH_load 3 (.map (some b)) (oi := { dst := some 13, op := Op.load 91 (Operand.tmp 12), type := 91, pos := "oracle.go:44", after := #[{ on := 2, ground := Ground.data }], guard := none }) rfl (by kernel_rfl) (by kernel_rfl) (by kernel_rfl) (by rfl) hS (fun _ _ _ h => h) (fun w hb => (by have c := (B.keep hb).cell 0; go_simp; try rfl)) ?_
  try simp only [Act.put, List.setIfInBounds_toArray, List.set_cons_zero, List.set_cons_succ]
  (refine wpH_pure 4 ?_ (oi := { dst := some 14, op := Op.move (Operand.tmp 1), type := 9, pos := "oracle.go:44", after := #[], guard := none }) rfl (by kernel_rfl) (by kernel_rfl) (by kernel_rfl) (by rfl) hS (fun _ _ _ h => h) ?_ ?_; rotate_left; focus (intro w; go_simp; try with_reducible rfl))
  try simp only [Act.put, List.setIfInBounds_toArray, List.set_cons_zero, List.set_cons_succ]
  (refine wpH_pure 5 ?_ (oi := { dst := some 15, op := Op.move (Operand.tmp 2), type := 9, pos := "oracle.go:44", after := #[], guard := none }) rfl (by kernel_rfl) (by kernel_rfl) (by kernel_rfl) (by rfl) hS (fun _ _ _ h => h) ?_ ?_; rotate_left; focus (intro w; go_simp; try with_reducible rfl))
  try simp only [Act.put, List.setIfInBounds_toArray, List.set_cons_zero, List.set_cons_succ]
  refine wpH_call 6 (oi := { dst := some 16, op := Op.call { callee := Callee.value (Operand.func 55), args := #[Operand.tmp 14, Operand.tmp 15], argTypes := #[9, 9] }, type := 95, pos := "oracle.go:44", after := #[{ on := 4, ground := Ground.data }, { on := 5, ground := Ground.data }], guard := none }) rfl (by kernel_rfl) (by rfl) (okey_any who mark _) ?_ ?_
  · (go_simp; try rfl)
  rintro e w' ⟨rfl, hbx⟩
  refine ⟨_, rfl, hS.trans (hbx.mono hS.size), ?_⟩
  replace hS := hS.trans (hbx.mono hS.size)
  try simp only [Act.put, List.setIfInBounds_toArray, List.set_cons_zero, List.set_cons_succ]
  refine wpH_load 7 (.tuple #[.int .i64 (n), .bool q]) (oi := { dst := some 17, op := Op.lookup 91 (Operand.tmp 13) (Operand.tmp 16) true, type := 90, pos := "oracle.go:44", after := #[{ on := 3, ground := Ground.data }, { on := 6, ground := Ground.data }], guard := none }) rfl (by kernel_rfl) (by kernel_rfl) (by kernel_rfl) (by rfl) hS (fun _ _ _ h => h) (fun w hb => (by have c := hlook w hb; go_simp; try exact c)) ?_
  try simp only [Act.put, List.setIfInBounds_toArray, List.set_cons_zero, List.set_cons_succ]
  (refine wpH_pure 8 ?_ (oi := { dst := some 9, op := Op.move (Operand.tmp 17), type := 90, pos := "oracle.go:44", after := #[{ on := 7, ground := Ground.data }], guard := none }) rfl (by kernel_rfl) (by kernel_rfl) (by kernel_rfl) (by rfl) hS (fun _ _ _ h => h) ?_ ?_; rotate_left; focus (intro w; go_simp; try with_reducible rfl))
  try simp only [Act.put, List.setIfInBounds_toArray, List.set_cons_zero, List.set_cons_succ]
  (refine wpH_pure 9 ?_ (oi := { dst := some 18, op := Op.extract (Operand.tmp 9) 0, type := 3, pos := "oracle.go:44", after := #[{ on := 8, ground := Ground.data }], guard := none }) rfl (by kernel_rfl) (by kernel_rfl) (by kernel_rfl) (by rfl) hS (fun _ _ _ h => h) ?_ ?_; rotate_left; focus (intro w; go_simp; try with_reducible rfl))
  try simp only [Act.put, List.setIfInBounds_toArray, List.set_cons_zero, List.set_cons_succ]
  (refine wpH_pure 10 ?_ (oi := { dst := some 19, op := Op.extract (Operand.tmp 9) 1, type := 4, pos := "oracle.go:44", after := #[{ on := 8, ground := Ground.data }, { on := 11, ground := Ground.gcOnly Departure.lateStores }], guard := none }) rfl (by kernel_rfl) (by kernel_rfl) (by kernel_rfl) (by rfl) hS (fun _ _ _ h => h) ?_ ?_; rotate_left; focus (intro w; go_simp; try with_reducible rfl))
  try simp only [Act.put, List.setIfInBounds_toArray, List.set_cons_zero, List.set_cons_succ]
  (refine wpH_pure 11 ?_ (oi := { dst := some 7, op := Op.assign (Operand.tmp 18), type := 3, pos := "oracle.go:44", after := #[{ on := 9, ground := Ground.data }, { on := 6, ground := Ground.chain }, { on := 0, ground := Ground.phase }, { on := 1, ground := Ground.phase }, { on := 2, ground := Ground.phase }, { on := 3, ground := Ground.phase }, { on := 4, ground := Ground.phase }, { on := 5, ground := Ground.phase }, { on := 6, ground := Ground.phase }, { on := 7, ground := Ground.phase }, { on := 8, ground := Ground.phase }, { on := 9, ground := Ground.phase }, { on := 10, ground := Ground.textOnly Departure.lateStores }], guard := none }) rfl (by kernel_rfl) (by kernel_rfl) (by kernel_rfl) (by rfl) hS (fun _ _ _ h => h) ?_ ?_; rotate_left; focus (intro w; go_simp; try with_reducible rfl))
  try simp only [Act.put, List.setIfInBounds_toArray, List.set_cons_zero, List.set_cons_succ]
  (refine wpH_pure 12 ?_ (oi := { dst := some 8, op := Op.assign (Operand.tmp 19), type := 4, pos := "oracle.go:44", after := #[{ on := 10, ground := Ground.data }, { on := 11, ground := Ground.chain }, { on := 0, ground := Ground.phase }, { on := 1, ground := Ground.phase }, { on := 2, ground := Ground.phase }, { on := 3, ground := Ground.phase }, { on := 4, ground := Ground.phase }, { on := 5, ground := Ground.phase }, { on := 6, ground := Ground.phase }, { on := 7, ground := Ground.phase }, { on := 8, ground := Ground.phase }, { on := 9, ground := Ground.phase }, { on := 10, ground := Ground.phase }, { on := 11, ground := Ground.phase }], guard := none }) rfl (by kernel_rfl) (by kernel_rfl) (by kernel_rfl) (by rfl) hS (fun _ _ _ h => h) ?_ ?_; rotate_left; focus (intro w; go_simp; try with_reducible rfl))
  try simp only [Act.put, List.setIfInBounds_toArray, List.set_cons_zero, List.set_cons_succ]
  refine wpAnyH_done (by kernel_rfl) ?_ _
  go_wp2_with fail
  all_goals (go_ret; exact ⟨rfl, hS⟩)

theorem wp_mapUpd {P : Program} {o : Oper} {a : Act} {w : World} {K : Act → World → Prop} {Q : Exit → Act → World → Prop} (m x v : Operand) (t : TypeId) (hop : o.op = Op.mapUpdate t m x v)
    (k e : TypeId) (Kd : Keyed P k) (ht : P.underlying t = some (.map k e)) (R : Value → Option (DataW Unit × List MemPlace)) (b n : Nat) (D : DataW Unit)
    (hm : a.eval m = .map (some b)) (hown : w.ownsMap P k R b n D) (hn : n < maxLen) (key val : Value) (kl : Lit) (hx : a.eval x = key) (hv : a.eval v = val) (hkey : keyOf P k key = some kl)
    (d : DataW Unit) (ps : List MemPlace) (hval : R val = some (d, ps))
    (hK : ∀ w', w'.ownsMap P k R b (n + 1) (D.put kl d) → w.grownBy w' (some b) → K (a.put o.dst undef) w') : o.wp P a w K Q := by
  obtain ⟨w', hrun, r1, r2⟩ := hown.update Kd ht hn hkey hval
  unfold Oper.wp
  simp [execOp, hop, hm, hx, hv, hrun, Result.andThen]
  exact hK w' r1 r2

theorem ownsMap_mod {H : Type} {R : Value → Option (DataW H × List MemPlace)} {W w : World} {t : TypeId} {b n : Nat} {D : DataW H} {l : List Nat} (h : W.ownsMap Tryd.prog t R b n D) (hb : Mod l W w) (hn : b ∉ l) : w.ownsMap Tryd.prog t R b n D := by
  obtain ⟨es, clock, h1, h2⟩ := h
  refine ⟨es, clock, (hb.block b ?_ hn).trans h1, h2⟩
  rcases Nat.lt_or_ge b W.heap.size with hlt | hge
  · exact hlt
  · rw [Array.getElem?_eq_none hge] at h1; cases h1

theorem ownsMap_at {H : Type} {R : Value → Option (DataW H × List MemPlace)} {W w : World} {t : TypeId} {b n : Nat} {D : DataW H} (h : W.ownsMap Tryd.prog t R b n D) (hb : w.heap[b]? = W.heap[b]?) : w.ownsMap Tryd.prog t R b n D := by
  obtain ⟨es, clock, h1, h2⟩ := h
  exact ⟨es, clock, hb.trans h1, h2⟩

set_option maxRecDepth 100000 in
set_option maxHeartbeats 400000 in
theorem osign_new (base p : Nat) (L : List Sg) (who mark : Bs) (honest : Bool) (hw0 : who ≠ []) (hw : who.length ≤ 6) (hm : mark.length = 32) (hn : L.length < 1024) (hnew : isIn L who mark = false) (w : World) (hT : Tab w base p L) :
    Calls Tryd.prog 26 #[.pointer (some ⟨p, 0, none⟩), .string ⟨List.toArray (who)⟩, .string ⟨List.toArray (mark)⟩, .bool honest] w fun e w' => e = .returned (.int .i64 (0)) ∧ Tab w' base p (L ++ [(who, mark, honest)]) ∧ Below base w w' := by
  obtain ⟨b, sv, h1, h2, B, h4, h5, h6⟩ := hT
  have hlook : ∀ w', Below w.heap.size w w' → (Instr.lookup 91 (.map (some b)) (.agg #[.string ⟨List.toArray (who)⟩, .string ⟨List.toArray (mark)⟩, .bool false]) true).run Tryd.prog w' = .ok (.tuple #[.int .i64 ((idxOf (L.map keyOfS).reverse (who, mark) : Int)), .bool (isIn L who mark)]) w' := fun w' hb => Tab.look (base := base) (p := p) (ownsMap_keep h4 hb) h6 (by omega) (by omega)
  rw [hnew] at hlook
  generalize (idxOf (L.map keyOfS).reverse (who, mark) : Int) = n at *
  have e1 : (who == []) = false := by simpa using hw0
  have e2 : decide ((6 : Int) < (who.length : Int)) = false := by simp; omega
  have e3 : ((mark.length : Int) != 32) = false := by simp; omega
  have HM := Lib.hid hm
  have hwf : (Lit.int .i64 (L.length : Int)).wf = true := by have h := wrap64_wf (L.length : Int); rw [← IntWalk.i64_left, IntWalk.i64_in _ (by omega)] at h; exact h
  clear hm
  go_enter Tryd.func26, Tryd.ntmps26
  go_wp2_with fail
  refine wpH_start (by kernel_rfl) (fun hS => ?_)
  (refine wpH_pure 0 ?_ (oi := { dst := some 22, op := Op.move (Operand.tmp 0), type := 31, pos := "oracle.go:30", after := #[], guard := none }) rfl (by kernel_rfl) (by kernel_rfl) (by kernel_rfl) (by rfl) hS (fun _ _ _ h => h) ?_ ?_; rotate_left; focus (intro w; go_simp; try with_reducible rfl))
  try simp only [Act.put, List.setIfInBounds_toArray, List.set_cons_zero, List.set_cons_succ]
  (refine wpH_pure 1 ?_ (oi := { dst := some 23, op := Op.nilCheck (Operand.tmp 22), type := 0, pos := "oracle.go:30", after := #[{ on := 0, ground := Ground.data }], guard := none }) rfl (by kernel_rfl) (by kernel_rfl) (by kernel_rfl) (by rfl) hS (fun _ _ _ h => h) ?_ ?_; rotate_left; focus (intro w; go_simp; try with_reducible rfl))
  try simp only [Act.put, List.setIfInBounds_toArray, List.set_cons_zero, List.set_cons_succ]
  (refine wpH_pure 2 ?_ (oi := { dst := some 24, op := Op.fieldAddr 93 (Operand.tmp 23) 0, type := 0, pos := "oracle.go:30", after := #[{ on := 1, ground := Ground.data }], guard := none }) rfl (by kernel_rfl) (by kernel_rfl) (by kernel_rfl) (by rfl) hS (fun _ _ _ h => h) ?_ ?_; rotate_left; focus (intro w; go_simp; try with_reducible rfl))
  try simp only [Act.put, List.setIfInBounds_toArray, List.set_cons_zero, List.set_cons_succ]
  refine wpH_load 3 (.map (some b)) (oi := { dst := some 25, op := Op.load 91 (Operand.tmp 24), type := 91, pos := "oracle.go:30", after := #[{ on := 2, ground := Ground.data }], guard := none }) rfl (by kernel_rfl) (by kernel_rfl) (by kernel_rfl) (by rfl) hS (fun _ _ _ h => h) (fun w hb => (by have c := (B.keep hb).cell 0; go_simp; try rfl)) ?_
  try simp only [Act.put, List.setIfInBounds_toArray, List.set_cons_zero, List.set_cons_succ]
  (refine wpH_pure 4 ?_ (oi := { dst := some 26, op := Op.move (Operand.tmp 1), type := 9, pos := "oracle.go:30", after := #[], guard := none }) rfl (by kernel_rfl) (by kernel_rfl) (by kernel_rfl) (by rfl) hS (fun _ _ _ h => h) ?_ ?_; rotate_left; focus (intro w; go_simp; try with_reducible rfl))
  try simp only [Act.put, List.setIfInBounds_toArray, List.set_cons_zero, List.set_cons_succ]
  (refine wpH_pure 5 ?_ (oi := { dst := some 27, op := Op.move (Operand.tmp 2), type := 9, pos := "oracle.go:30", after := #[], guard := none }) rfl (by kernel_rfl) (by kernel_rfl) (by kernel_rfl) (by rfl) hS (fun _ _ _ h => h) ?_ ?_; rotate_left; focus (intro w; go_simp; try with_reducible rfl))
  try simp only [Act.put, List.setIfInBounds_toArray, List.set_cons_zero, List.set_cons_succ]
  refine wpH_call 6 (oi := { dst := some 28, op := Op.call { callee := Callee.value (Operand.func 55), args := #[Operand.tmp 26, Operand.tmp 27], argTypes := #[9, 9] }, type := 95, pos := "oracle.go:30", after := #[{ on := 4, ground := Ground.data }, { on := 5, ground := Ground.data }], guard := none }) rfl (by kernel_rfl) (by rfl) (okey_any who mark _) ?_ ?_
  · (go_simp; try rfl)
  rintro e w' ⟨rfl, hbx⟩
  refine ⟨_, rfl, hS.trans (hbx.mono hS.size), ?_⟩
  replace hS := hS.trans (hbx.mono hS.size)
  try simp only [Act.put, List.setIfInBounds_toArray, List.set_cons_zero, List.set_cons_succ]
  refine wpH_load 7 (.tuple #[.int .i64 (n), .bool false]) (oi := { dst := some 29, op := Op.lookup 91 (Operand.tmp 25) (Operand.tmp 28) true, type := 90, pos := "oracle.go:30", after := #[{ on := 3, ground := Ground.data }, { on := 6, ground := Ground.data }], guard := none }) rfl (by kernel_rfl) (by kernel_rfl) (by kernel_rfl) (by rfl) hS (fun _ _ _ h => h) (fun w hb => (by have c := hlook w hb; go_simp; try exact c)) ?_
  try simp only [Act.put, List.setIfInBounds_toArray, List.set_cons_zero, List.set_cons_succ]
  (refine wpH_pure 8 ?_ (oi := { dst := some 21, op := Op.move (Operand.tmp 29), type := 90, pos := "oracle.go:30", after := #[{ on := 7, ground := Ground.data }], guard := none }) rfl (by kernel_rfl) (by kernel_rfl) (by kernel_rfl) (by rfl) hS (fun _ _ _ h => h) ?_ ?_; rotate_left; focus (intro w; go_simp; try with_reducible rfl))
  try simp only [Act.put, List.setIfInBounds_toArray, List.set_cons_zero, List.set_cons_succ]
  (refine wpH_pure 9 ?_ (oi := { dst := some 30, op := Op.extract (Operand.tmp 21) 0, type := 3, pos := "oracle.go:30", after := #[{ on := 8, ground := Ground.data }], guard := none }) rfl (by kernel_rfl) (by kernel_rfl) (by kernel_rfl) (by rfl) hS (fun _ _ _ h => h) ?_ ?_; rotate_left; focus (intro w; go_simp; try with_reducible rfl))
  try simp only [Act.put, List.setIfInBounds_toArray, List.set_cons_zero, List.set_cons_succ]
  (refine wpH_pure 10 ?_ (oi := { dst := some 31, op := Op.extract (Operand.tmp 21) 1, type := 4, pos := "oracle.go:30", after := #[{ on := 8, ground := Ground.data }, { on := 11, ground := Ground.gcOnly Departure.lateStores }], guard := none }) rfl (by kernel_rfl) (by kernel_rfl) (by kernel_rfl) (by rfl) hS (fun _ _ _ h => h) ?_ ?_; rotate_left; focus (intro w; go_simp; try with_reducible rfl))
  try simp only [Act.put, List.setIfInBounds_toArray, List.set_cons_zero, List.set_cons_succ]
  (refine wpH_pure 11 ?_ (oi := { dst := some 9, op := Op.assign (Operand.tmp 30), type := 3, pos := "oracle.go:30", after := #[{ on := 9, ground := Ground.data }, { on := 6, ground := Ground.chain }, { on := 0, ground := Ground.phase }, { on := 1, ground := Ground.phase }, { on := 2, ground := Ground.phase }, { on := 3, ground := Ground.phase }, { on := 4, ground := Ground.phase }, { on := 5, ground := Ground.phase }, { on := 6, ground := Ground.phase }, { on := 7, ground := Ground.phase }, { on := 8, ground := Ground.phase }, { on := 9, ground := Ground.phase }, { on := 10, ground := Ground.textOnly Departure.lateStores }], guard := none }) rfl (by kernel_rfl) (by kernel_rfl) (by kernel_rfl) (by rfl) hS (fun _ _ _ h => h) ?_ ?_; rotate_left; focus (intro w; go_simp; try with_reducible rfl))
  try simp only [Act.put, List.setIfInBounds_toArray, List.set_cons_zero, List.set_cons_succ]
  (refine wpH_pure 12 ?_ (oi := { dst := some 10, op := Op.assign (Operand.tmp 31), type := 4, pos := "oracle.go:30", after := #[{ on := 10, ground := Ground.data }, { on := 11, ground := Ground.chain }, { on := 0, ground := Ground.phase }, { on := 1, ground := Ground.phase }, { on := 2, ground := Ground.phase }, { on := 3, ground := Ground.phase }, { on := 4, ground := Ground.phase }, { on := 5, ground := Ground.phase }, { on := 6, ground := Ground.phase }, { on := 7, ground := Ground.phase }, { on := 8, ground := Ground.phase }, { on := 9, ground := Ground.phase }, { on := 10, ground := Ground.phase }, { on := 11, ground := Ground.phase }], guard := none }) rfl (by kernel_rfl) (by kernel_rfl) (by kernel_rfl) (by rfl) hS (fun _ _ _ h => h) ?_ ?_; rotate_left; focus (intro w; go_simp; try with_reducible rfl))
  try simp only [Act.put, List.setIfInBounds_toArray, List.set_cons_zero, List.set_cons_succ]
  refine wpAnyH_done (by kernel_rfl) ?_ _
  have B2 := B.keep hS
  obtain ⟨b1, b2, b3⟩ := id B2
  have hown2 := ownsMap_keep h4 hS
  have hG2 := h5.keep hS
  obtain ⟨va, vc, rfl⟩ := h5.form
  have e4 : decide ((1024 : Int) ≤ (L.length : Int)) = false := by simp; omega
  go_wp2_with fail
  have hbase : base ≤ w.heap.size := by have := B.lt; omega
  have hbq := hS.mono hbase
  have hqs := hS.size
  obtain ⟨wq, hq⟩ := Below.nm hS
  subst hq
  clear hS hlook h4 h5 B
  refine wpH_startM [b] (by kernel_rfl) (fun hS => ?_)
  (refine wpH_pure 0 ?_ (oi := { dst := some 57, op := Op.move (Operand.tmp 0), type := 31, pos := "oracle.go:37", after := #[], guard := none }) rfl (by kernel_rfl) (by kernel_rfl) (by kernel_rfl) (by rfl) hS (fun _ _ _ h => h) ?_ ?_; rotate_left; focus (intro w; go_simp; try with_reducible rfl))
  try simp only [Act.put, List.setIfInBounds_toArray, List.set_cons_zero, List.set_cons_succ]
  (refine wpH_pure 1 ?_ (oi := { dst := some 58, op := Op.nilCheck (Operand.tmp 57), type := 0, pos := "oracle.go:37", after := #[{ on := 0, ground := Ground.data }], guard := none }) rfl (by kernel_rfl) (by kernel_rfl) (by kernel_rfl) (by rfl) hS (fun _ _ _ h => h) ?_ ?_; rotate_left; focus (intro w; go_simp; try with_reducible rfl))
  try simp only [Act.put, List.setIfInBounds_toArray, List.set_cons_zero, List.set_cons_succ]
  (refine wpH_pure 2 ?_ (oi := { dst := some 59, op := Op.fieldAddr 93 (Operand.tmp 58) 0, type := 0, pos := "oracle.go:37", after := #[{ on := 1, ground := Ground.data }], guard := none }) rfl (by kernel_rfl) (by kernel_rfl) (by kernel_rfl) (by rfl) hS (fun _ _ _ h => h) ?_ ?_; rotate_left; focus (intro w; go_simp; try with_reducible rfl))
  try simp only [Act.put, List.setIfInBounds_toArray, List.set_cons_zero, List.set_cons_succ]
  refine wpH_load 3 (.map (some b)) (oi := { dst := some 60, op := Op.load 91 (Operand.tmp 59), type := 91, pos := "oracle.go:37", after := #[{ on := 2, ground := Ground.data }], guard := none }) rfl (by kernel_rfl) (by kernel_rfl) (by kernel_rfl) (by rfl) hS (fun _ _ _ h => h) (fun w hb => (by have c := (B2.mod hb (by simp; omega)).cell 0; go_simp; try rfl)) ?_
  try simp only [Act.put, List.setIfInBounds_toArray, List.set_cons_zero, List.set_cons_succ]
  (refine wpH_pure 4 ?_ (oi := { dst := some 61, op := Op.move (Operand.tmp 1), type := 9, pos := "oracle.go:37", after := #[], guard := none }) rfl (by kernel_rfl) (by kernel_rfl) (by kernel_rfl) (by rfl) hS (fun _ _ _ h => h) ?_ ?_; rotate_left; focus (intro w; go_simp; try with_reducible rfl))
  try simp only [Act.put, List.setIfInBounds_toArray, List.set_cons_zero, List.set_cons_succ]
  (refine wpH_pure 5 ?_ (oi := { dst := some 62, op := Op.move (Operand.tmp 2), type := 9, pos := "oracle.go:37", after := #[], guard := none }) rfl (by kernel_rfl) (by kernel_rfl) (by kernel_rfl) (by rfl) hS (fun _ _ _ h => h) ?_ ?_; rotate_left; focus (intro w; go_simp; try with_reducible rfl))
  try simp only [Act.put, List.setIfInBounds_toArray, List.set_cons_zero, List.set_cons_succ]
  (refine wpH_pure 7 ?_ (oi := { dst := some 64, op := Op.move (Operand.tmp 0), type := 31, pos := "oracle.go:37", after := #[], guard := none }) rfl (by kernel_rfl) (by kernel_rfl) (by kernel_rfl) (by rfl) hS (fun _ _ _ h => h) ?_ ?_; rotate_left; focus (intro w; go_simp; try with_reducible rfl))
  try simp only [Act.put, List.setIfInBounds_toArray, List.set_cons_zero, List.set_cons_succ]
  (refine wpH_pure 8 ?_ (oi := { dst := some 65, op := Op.nilCheck (Operand.tmp 64), type := 0, pos := "oracle.go:37", after := #[{ on := 7, ground := Ground.data }], guard := none }) rfl (by kernel_rfl) (by kernel_rfl) (by kernel_rfl) (by rfl) hS (fun _ _ _ h => h) ?_ ?_; rotate_left; focus (intro w; go_simp; try with_reducible rfl))
  try simp only [Act.put, List.setIfInBounds_toArray, List.set_cons_zero, List.set_cons_succ]
  (refine wpH_pure 9 ?_ (oi := { dst := some 66, op := Op.fieldAddr 93 (Operand.tmp 65) 1, type := 0, pos := "oracle.go:37", after := #[{ on := 8, ground := Ground.data }], guard := none }) rfl (by kernel_rfl) (by kernel_rfl) (by kernel_rfl) (by rfl) hS (fun _ _ _ h => h) ?_ ?_; rotate_left; focus (intro w; go_simp; try with_reducible rfl))
  try simp only [Act.put, List.setIfInBounds_toArray, List.set_cons_zero, List.set_cons_succ]
  refine wpH_load 10 (.slice va L.length vc) (oi := { dst := some 67, op := Op.load 32 (Operand.tmp 66), type := 32, pos := "oracle.go:37", after := #[{ on := 9, ground := Ground.data }], guard := none }) rfl (by kernel_rfl) (by kernel_rfl) (by kernel_rfl) (by rfl) hS (fun _ _ _ h => h) (fun w hb => (by have c := (B2.mod hb (by simp; omega)).cell 1; go_simp; try rfl)) ?_
  try simp only [Act.put, List.setIfInBounds_toArray, List.set_cons_zero, List.set_cons_succ]
  (refine wpH_pure 11 ?_ (oi := { dst := some 68, op := Op.call { callee := Callee.builtin Builtin.len, args := #[Operand.tmp 67], argTypes := #[32] }, type := 3, pos := "oracle.go:37", after := #[{ on := 10, ground := Ground.data }], guard := none }) rfl (by kernel_rfl) (by kernel_rfl) (by kernel_rfl) (by rfl) hS (fun _ _ _ h => h) ?_ ?_; rotate_left; focus (intro w; go_simp; try with_reducible rfl))
  try simp only [Act.put, List.setIfInBounds_toArray, List.set_cons_zero, List.set_cons_succ]
  refine wpH_call 6 (oi := { dst := some 63, op := Op.call { callee := Callee.value (Operand.func 55), args := #[Operand.tmp 61, Operand.tmp 62], argTypes := #[9, 9] }, type := 95, pos := "oracle.go:37", after := #[{ on := 4, ground := Ground.data }, { on := 5, ground := Ground.data }], guard := none }) rfl (by kernel_rfl) (by rfl) (okey_any who mark _) ?_ ?_
  · (go_simp; try rfl)
  rintro e w' ⟨rfl, hbx⟩
  refine ⟨_, rfl, hS.trans (Mod.of_below hbx), ?_⟩
  replace hS := hS.trans (Mod.of_below hbx)
  try simp only [Act.put, List.setIfInBounds_toArray, List.set_cons_zero, List.set_cons_succ]
  refine wpH_op 12 (oi := { dst := none, op := Op.mapUpdate 91 (Operand.tmp 60) (Operand.tmp 63) (Operand.tmp 68), type := 0, pos := "oracle.go:37", after := #[{ on := 3, ground := Ground.data }, { on := 6, ground := Ground.data }, { on := 11, ground := Ground.data }, { on := 6, ground := Ground.chain }, { on := 0, ground := Ground.phase }, { on := 1, ground := Ground.phase }, { on := 2, ground := Ground.phase }, { on := 3, ground := Ground.phase }, { on := 4, ground := Ground.phase }, { on := 5, ground := Ground.phase }, { on := 6, ground := Ground.phase }, { on := 7, ground := Ground.phase }, { on := 8, ground := Ground.phase }, { on := 9, ground := Ground.phase }, { on := 10, ground := Ground.phase }, { on := 11, ground := Ground.phase }], guard := none }) rfl (by kernel_rfl) (by rfl) ?_
  refine wp_mapUpd (.tmp 60) (.tmp 63) (.tmp 68) 91 rfl 95 3 keyedG Tryd.underlying91 (plainElem Tryd.prog 3) b L.length _ rfl (ownsMap_keep (World.ownsMap.drew hown2) hbx) (by unfold maxLen; omega) _ _ (kG who mark) rfl rfl (keyG who mark (by unfold maxLen; omega) (by unfold maxLen; have := HM.out; omega)) _ [] (plainElem_int Tryd.underlying3 hwf) ?_
  rintro w7 hown7 hg7
  have m7 : Mod [b] _ w7 := hS.trans (grown_mod hg7)
  refine ⟨m7, ?_⟩
  try simp only [Act.put, List.setIfInBounds_toArray, List.set_cons_zero, List.set_cons_succ]
  refine wpAnyH_done (by kernel_rfl) ?_ _
  have B7 := B2.mod m7 (by simp; omega)
  have hG7 := hG2.mod m7 (fun k hk => by have := (hG2.own k hk).1; simp; omega)
  have hb7 : Below base w w7 := Below.mod hbq m7 (by omega) (by simp; omega)
  have hs7 := m7.size
  have hlt7 := B7.lt
  clear b1 b2 b3 hG2 B2
  obtain ⟨b1, b2, b3⟩ := id B7
  go_wp2_with (first
    | (at_builtin; refine wpList_appG rfl (.tmp 73) (.tmp 78) rfl (p + 1) _ L rfl (hG7.keep (Below.allocS (Below.refl _ _) _)) w7.heap.size 0 1 1 [(who, mark, honest)] rfl rfl (gsrc1 _ _ _ _ _) (by omega) (by simp; omega) ?_; rintro v8 w8 hG8 hb8; obtain ⟨va8, vc8, rfl⟩ := hG8.form; have B8 := (B7.alloc (.cells #[.string ⟨List.toArray (who)⟩, .string ⟨List.toArray (mark)⟩, .bool honest] 95)).of_block (hb8.block p (Nat.lt_succ_self _)) hb8.size; clear b1 b2 b3; obtain ⟨b1, b2, b3⟩ := id B8)
    | fail)
  go_ret
  have hb9 : Below base w w8 := (Below.alloc hb7 (by omega) (.cells #[.string ⟨List.toArray (who)⟩, .string ⟨List.toArray (mark)⟩, .bool honest] 95)).trans (hb8.mono (by omega))
  have hown8 := ownsMap_at (hown7.alloc (.cells #[.string ⟨List.toArray (who)⟩, .string ⟨List.toArray (mark)⟩, .bool honest] 95)) (hb8.block b (by omega))
  rw [show (L ++ [(who, mark, honest)]).length = L.length + 1 from by simp] at hG8
  refine ⟨rfl, ⟨b, .slice va8 (L.length + 1) vc8, h1, h2, B8.set 1 _, ?_, hG8.mod ((Mod.refl [p] _).setCell (.inl (by simp)) _) (fun k hk => by have := (hG8.own k hk).1; simp; omega), ?_⟩, hb9.setCell (by simp; omega) _⟩
  · have h := hown8.setCell (a := ⟨p, 1, none⟩) (by simp; omega) (.slice va8 (L.length + 1) vc8)
    have hd : idxD ((L ++ [(who, mark, honest)]).map keyOfS).reverse = (idxD (L.map keyOfS).reverse).put (kG who mark) (.lit (.int .i64 (L.length : Int))) := by simp [idxD, keyOfS]
    rw [hd, List.length_append]
    exact h
  · intro x hx
    rcases List.mem_append.1 hx with hx | hx
    · exact h6 x hx
    · simp at hx
      subst hx
      exact ⟨hw, HM.out⟩
end Go.Proofs.YtbnjhfkmdejeaaaDoor
