/- Lists that are lent with a text behind; whole lists appended. -/
import Derived.Test.YtmldonbmjgelnaaDoorRList
import Derived.Test.YtmldonbmjgelnaaDoorMRow
import Derived.Deep.Upon
import Derived.Maps.AppendAt
set_option linter.unusedSimpArgs false
set_option linter.unusedVariables false
namespace Go.Proofs.YtmldonbmjgelnaaDoor
open Go.RowKit Pl

section
variable {ops : Array Oper} {o : Oper} {rest : List Oper} {a : Act} {w : World} {Q : Exit → Act → World → Prop}
/-- append(v, x...) of texts, v own, x any. -/
theorem wpList_appSS (hgd : o.guard = none) (s x : Operand)
    (ho : o.op = .call { callee := .builtin .append, args := #[s, x], argTypes := #[35, 35] })
    (base : Nat) (v : Value) (l : List Bs) (hs : a.eval s = v) (hown : SRow w base v l)
    (u : Value) (news : List Bs) (hx : a.eval x = u) (hsrc : SS w u news)
    (hlen : l.length + news.length ≤ 8796093022208) (hbase : base ≤ w.heap.size)
    (h : ∀ v' w', SRow w' base v' (l ++ news) → Below base w w' → wpList Tryd.prog ops Q rest (a.put o.dst v') w') : wpList Tryd.prog ops Q (o :: rest) a w := by
  obtain ⟨au, cu, hu, h1, h2, h3⟩ := hsrc
  by_cases hn : news = []
  · subst hn
    obtain ⟨i0, hi, hz0, hz1, hz2⟩ := info_parts infoStr
    obtain ⟨va, vc, hv⟩ := hown.form
    have hle : l.length ≤ vc := by
      rcases hown.cells with ⟨e, e2⟩ | ⟨g, cap, e, _, _, h4, _⟩
      · subst e2; simp
      · rw [hv] at e; injection e with _ _ e; subst e; exact h4
    have hS : Src Tryd.prog i0.size 35 u 0 [] w := by
      subst hu
      cases au with
      | none => exact Src.ofNil w Tryd.underlying35 cu
      | some ad => exact Src.ofSlice w Tryd.underlying35 ad 0 cu [] (by simp) (fun j u h => by simp at h) (fun _ h => by cases h)
    have hr := run_append_nothing (P := Tryd.prog) w 35 35 o.type 9 i0 Tryd.underlying35 hi va l.length vc hle u hS
    refine wpList_plain hgd fun K hK => ?_
    unfold Oper.wp execOp
    simp only [ho, resolve, invoke, builtin, Sem.run_bind, Sem.run_pure, Result.andThen_ok, List.map_toArray, List.map_cons, List.map_nil, hs, hx, hv, hr]
    exact hK _ _ (h _ w (by rw [List.append_nil, ← hv]; exact hown) (Below.refl _ _))
  · obtain ⟨g, off, rfl, hg, hc⟩ := h3 hn
    exact wpList_appS hgd s x ho base v l hs hown g off news.length cu news (hx.trans hu) rfl hc hlen hbase h
/-- append(v, x...) of members. -/
theorem wpList_appMM (hgd : o.guard = none) (s x : Operand)
    (ho : o.op = .call { callee := .builtin .append, args := #[s, x], argTypes := #[40, 40] })
    (base : Nat) (v : Value) (l : List (Bs × Int)) (hs : a.eval s = v) (hown : MRow w base v l)
    (u : Value) (news : List (Bs × Int)) (hx : a.eval x = u) (hsrc : MS w u news)
    (hlen : l.length + news.length ≤ 1099511627000) (hbase : base ≤ w.heap.size)
    (h : ∀ v' w', MRow w' base v' (l ++ news) → Below base w w' → wpList Tryd.prog ops Q rest (a.put o.dst v') w') : wpList Tryd.prog ops Q (o :: rest) a w := by
  obtain ⟨au, cu, hu, h1, h2, h3⟩ := hsrc
  by_cases hn : news = []
  · subst hn
    obtain ⟨i0, hi, hz0, hz1, hz2⟩ := info_parts infoMem
    obtain ⟨va, vc, hv⟩ := hown.form
    have hle : l.length ≤ vc := by
      rcases hown.cells with ⟨e, e2⟩ | ⟨g, cap, e, _, _, h4, _⟩
      · subst e2; simp
      · rw [hv] at e; injection e with _ _ e; subst e; exact h4
    have hS : Src Tryd.prog i0.size 40 u 0 [] w := by
      subst hu
      cases au with
      | none => exact Src.ofNil w Tryd.underlying40 cu
      | some ad => exact Src.ofSlice w Tryd.underlying40 ad 0 cu [] (by simp) (fun j u h => by simp at h) (fun _ h => by cases h)
    have hr := run_append_nothing (P := Tryd.prog) w 40 40 o.type 63 i0 Tryd.underlying40 hi va l.length vc hle u hS
    refine wpList_plain hgd fun K hK => ?_
    unfold Oper.wp execOp
    simp only [ho, resolve, invoke, builtin, Sem.run_bind, Sem.run_pure, Result.andThen_ok, List.map_toArray, List.map_cons, List.map_nil, hs, hx, hv, hr]
    exact hK _ _ (h _ w (by rw [List.append_nil, ← hv]; exact hown) (Below.refl _ _))
  · obtain ⟨g, off, rfl, hg, hc⟩ := h3 hn
    exact wpList_appM hgd s x ho base v l hs hown g off news.length cu news (hx.trans hu) rfl hc hlen hbase h
end

def beh : Bs := [98, 101, 104, 105, 110, 100]
theorem SRow.lt {w : World} {b : Nat} {v : Value} {l : List Bs} (h : SRow w b v l) : ∀ k, v.ownBlock = some k → k < w.heap.size := by
  intro k hk
  rcases h.cells with ⟨rfl, _⟩ | ⟨g, cap, rfl, _, hg, _⟩
  · cases hk
  · cases hk; exact hg
theorem SRow.grown {w w' : World} {b : Nat} {row : Option Nat} {v : Value} {l : List Bs} (h : SRow w b v l) (hg : w.grownBy w' row) (hn : ∀ k, v.ownBlock = some k → row ≠ some k) : SRow w' b v l :=
  h.kept (fun k hk => hg.block k (h.lt k hk) (fun e => hn k hk e.symm))
section
variable {ops : Array Oper} {o : Oper} {rest : List Oper} {a : Act} {w : World} {Q : Exit → Act → World → Prop}
/-- append(v, x...): where the new slice lies, too. -/
theorem wpList_appAt (hgd : o.guard = none) (s x : Operand)
    (ho : o.op = .call { callee := .builtin .append, args := #[s, x], argTypes := #[35, 35] })
    (base : Nat) (v : Value) (l : List Bs) (hs : a.eval s = v) (hown : SRow w base v l)
    (u : Value) (news : List Bs) (hx : a.eval x = u) (hsrc : SS w u news)
    (hlen : l.length + news.length ≤ 8796093022208) (hbase : base ≤ w.heap.size)
    (h : ∀ v' w', SRow w' base v' (l ++ news) → w.grownBy w' v.ownBlock → (v'.ownBlock = v.ownBlock ∨ v'.ownBlock = some w.heap.size) → wpList Tryd.prog ops Q rest (a.put o.dst v') w') : wpList Tryd.prog ops Q (o :: rest) a w := by
  obtain ⟨au, cu, hu, h1, h2, h3⟩ := hsrc
  obtain ⟨i0, hi, hz0, hz1, hz2⟩ := info_parts infoStr
  by_cases hn : news = []
  · subst hn
    obtain ⟨va, vc, hv⟩ := hown.form
    have hle : l.length ≤ vc := by
      rcases hown.cells with ⟨e, e2⟩ | ⟨g, cap, e, _, _, h4, _⟩
      · subst e2; simp
      · rw [hv] at e; injection e with _ _ e; subst e; exact h4
    have hS : Src Tryd.prog i0.size 35 u 0 [] w := by
      subst hu
      cases au with
      | none => exact Src.ofNil w Tryd.underlying35 cu
      | some ad => exact Src.ofSlice w Tryd.underlying35 ad 0 cu [] (by simp) (fun j u h => by simp at h) (fun _ h => by cases h)
    have hr := run_append_nothing (P := Tryd.prog) w 35 35 o.type 9 i0 Tryd.underlying35 hi va l.length vc hle u hS
    refine wpList_plain hgd fun K hK => ?_
    unfold Oper.wp execOp
    simp only [ho, resolve, invoke, builtin, Sem.run_bind, Sem.run_pure, Result.andThen_ok, List.map_toArray, List.map_cons, List.map_nil, hs, hx, hv, hr]
    exact hK _ _ (h _ w (by rw [List.append_nil, ← hv]; exact hown) ⟨rfl, rfl, rfl, Nat.le_refl _, fun _ _ _ => rfl⟩ (.inl (by rw [hv])))
  · obtain ⟨g, off, rfl, hg, hc⟩ := h3 hn
    refine wpList_append_own_at w hgd s x 35 ho base 9 i0 (.string ⟨#[]⟩) 1 16 Tryd.underlying35 hi hz0 hz1 hz2 rfl (by decide) v l.length (sv l) hs hown ⟨g, off, none⟩ news.length cu (sv news) (hx.trans hu) (by rw [sv_len]; omega) (ssrc_news hc) (sone news)
      (by unfold maxLen; omega) (by omega) hbase (fun v' w' h2 h3 _ h5 => h v' w' ?_ h3 h5)
    unfold SRow
    rw [List.length_append, show sv (l ++ news) = sv l ++ sv news from by simp [sv]]
    exact h2
end
theorem SRow.snoc {w : World} {b : Nat} {v : Value} {l : List Bs} {x : Bs} (h : SRow w b v (l ++ [x])) : ∃ g cap, v = .slice (some ⟨g, 0, none⟩) (l.length + 1) cap ∧ l.length + 1 ≤ cap ∧ (l.length : Int) + 1 ≤ cap := by
  rcases h.cells with ⟨_, e⟩ | ⟨g, cap, e, _, _, h3, _⟩
  · simp at e
  · rw [List.length_append] at e h3
    exact ⟨g, cap, e, by simpa using h3, by simp at h3; omega⟩
/-- v is a list that was lent: it reads as l, and behind it stands a text. -/
def Lent (w : World) (base : Nat) (v : Value) (l : List Bs) : Prop :=
  ∃ g cap, v = .slice (some ⟨g, 0, none⟩) l.length cap ∧ SRow w base (.slice (some ⟨g, 0, none⟩) (l.length + 1) cap) (l ++ [beh])
theorem Lent.cells {w : World} {base : Nat} {v : Value} {l : List Bs} (h : Lent w base v l) :
    ∃ g cap, v = .slice (some ⟨g, 0, none⟩) l.length cap ∧ base ≤ g ∧ g < w.heap.size ∧ l.length + 1 ≤ cap ∧ cap ≤ maxLen ∧ (∀ i, i < l.length → w.cell? ⟨g, i, none⟩ = some (.string ⟨List.toArray (l.getD i [])⟩)) ∧ w.cell? ⟨g, l.length, none⟩ = some (.string ⟨List.toArray (beh)⟩) := by
  obtain ⟨g, cap, rfl, hr⟩ := h
  rcases hr.cells with ⟨e, _⟩ | ⟨g', cap', e, h1, h2, h3, h4, h5, _⟩
  · cases e
  · injection e with e1 _ e3
    injection e1 with e1
    injection e1 with e1 _ _
    subst e1 e3
    simp at h3 h5
    refine ⟨g, cap, rfl, h1, h2, h3, h4, fun i hi => ?_, ?_⟩
    · rw [h5 i (by omega), List.getElem?_append_left hi]
      rfl
    · rw [h5 l.length (by omega)]
      simp
theorem Lent.ss {w : World} {base : Nat} {v : Value} {l : List Bs} (h : Lent w base v l) : SS w v l := by
  obtain ⟨g, cap, rfl, h1, h2, h3, h4, h5, h6⟩ := h.cells
  exact SS.of (by omega) h4 h2 (fun i hi => by rw [Nat.zero_add]; exact h5 i hi)
theorem Lent.keep {W w : World} {base : Nat} {v : Value} {l : List Bs} (h : Lent W base v l) (hb : Below W.heap.size W w) : Lent w base v l := by
  obtain ⟨g, cap, e, hr⟩ := h
  exact ⟨g, cap, e, hr.keep hb⟩
theorem Lent.low {w : World} {b c : Nat} {v : Value} {l : List Bs} (h : Lent w b v l) (hc : c ≤ b) : Lent w c v l := by
  obtain ⟨g, cap, e, hr⟩ := h
  exact ⟨g, cap, e, hr.low hc⟩

set_option maxRecDepth 100000 in
set_option maxHeartbeats 400000 in
theorem lend_any (v : Value) (l : List Bs) (hl : l.length ≤ 1000000) (w : World) (hv : SS w v l) :
    Calls Tryd.prog 45 #[v] w fun e w' => ∃ u, e = .returned u ∧ Lent w' w.heap.size u l ∧ Below w.heap.size w w' := by
  have hf := hv.form
  obtain ⟨a, c, rfl⟩ := hf
  have HV := Lib.hid hv
  clear hv
  go_enter Tryd.func45, Tryd.ntmps45
  go_wp2_with (first
    | (at_builtin; refine wpList_appSS rfl (.tmp 4) (.tmp 5) rfl w.heap.size (.slice none 0 0) [] rfl (SRow.nil _ _) _ l rfl HV.out (by simp; omega) (Nat.le_refl _) ?_; rintro v1 w1 hS1 hb1; rw [List.nil_append] at hS1)
    | (at_builtin; refine wpList_appS rfl (.tmp 7) (.tmp 8) rfl w.heap.size _ l rfl (hS1.alloc _) w1.heap.size 0 1 1 [beh] rfl rfl (ssrc1 _ _ _) (by omega) (by simp; have := hb1.size; omega) ?_; rintro v2 w2 hS2 hb2; obtain ⟨g2, cap2, rfl, q3n, q3'⟩ := hS2.snoc)
    | fail)
  all_goals go_ret
  all_goals exact ⟨_, rfl, ⟨g2, cap2, rfl, hS2⟩, (Below.allocS hb1 (.cells #[.string ⟨List.toArray (beh)⟩] 9)).trans hb2⟩

set_option maxRecDepth 100000 in
set_option maxHeartbeats 400000 in
theorem kept_any (base : Nat) (u v : Value) (l : List Bs) (w : World) (hu : Lent w base u l) (hv : SS w v l) :
    Calls Tryd.prog 56 #[u, v] w fun e w' => e = .returned (.bool true) ∧ Below w.heap.size w w' := by
  obtain ⟨g, cap, rfl, h1, h2, h3, h4, h5, h6⟩ := hu.cells
  obtain ⟨b, d, rfl⟩ := hv.form
  have hsame := sametexts_self _ _ l w hu.ss hv
  have hq : (l.length : Int) + 1 ≤ (cap : Int) := by omega
  unfold maxLen at h4
  have q1 : IntKind.i64.wrap ((l.length : Int) + 1) = (l.length : Int) + 1 := IntWalk.i64_in _ (by omega)
  have HS := Lib.hid hsame
  clear hsame hu hv h5
  go_enter Tryd.func56, Tryd.ntmps56
  go_wp2_with fail
  refine HS.out.mono ?_
  rintro e w1 ⟨rfl, n, rfl⟩
  go_wp2_with fail
  all_goals (go_ret; exact ⟨rfl, below_drewN (Below.refl _ _) n⟩)
end Go.Proofs.YtmldonbmjgelnaaDoor
