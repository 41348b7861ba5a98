/- Lend, Same. -/
import Derived.Test.YtbnjhfkmdejeaaaDoorMg2
import Derived.Test.YtbnjhfkmdejeaaaDoorMg11
import Derived.Test.YtbnjhfkmdejeaaaDoorMg3
import Derived.Deep.Upon
import Derived.Maps.AppendAt
import Derived.Test.YtbnjhfkmdejeaaaDoorMg15
set_option linter.unnecessarySimpa false

/- Lists that are lent with a text behind; whole lists appended. -/
set_option linter.unusedSimpArgs false
set_option linter.unusedVariables false
namespace Go.Proofs.YtbnjhfkmdejeaaaDoor
open Go.RowKit Pl

section
variable {ops : Array Oper} {o : Oper} {rest : List Oper} {a : Act} {w : World} {Q : Exit → Act → World → Prop}
/-- append(v, x...) of texts, v own, x any. -/
theorem wpList_appSS (hgd : o.guard = none) (s x : Operand)
    (ho : o.op = .call { callee := .builtin .append, args := #[s, x], argTypes := #[26, 26] })
    (base : Nat) (v : Value) (l : List Bs) (hs : a.eval s = v) (hown : SRow w base v l)
    (u : Value) (news : List Bs) (hx : a.eval x = u) (hsrc : SS w u news)
    (hlen : l.length + news.length ≤ 8796093022208) (hbase : base ≤ w.heap.size)
    (h : ∀ v' w', SRow w' base v' (l ++ news) → Below base w w' → wpList Tryd.prog ops Q rest (a.put o.dst v') w') : wpList Tryd.prog ops Q (o :: rest) a w := by
  obtain ⟨au, cu, hu, h1, h2, h3⟩ := hsrc
  by_cases hn : news = []
  · subst hn
    obtain ⟨i0, hi, hz0, hz1, hz2⟩ := info_parts infoStr
    obtain ⟨va, vc, hv⟩ := hown.form
    have hle : l.length ≤ vc := by
      rcases hown.cells with ⟨e, e2⟩ | ⟨g, cap, e, _, _, h4, _⟩
      · subst e2; simp
      · rw [hv] at e; injection e with _ _ e; subst e; exact h4
    have hS : Src Tryd.prog i0.size 26 u 0 [] w := by
      subst hu
      cases au with
      | none => exact Src.ofNil w Tryd.underlying26 cu
      | some ad => exact Src.ofSlice w Tryd.underlying26 ad 0 cu [] (by simp) (fun j u h => by simp at h) (fun _ h => by cases h)
    have hr := run_append_nothing (P := Tryd.prog) w 26 26 o.type 9 i0 Tryd.underlying26 hi va l.length vc hle u hS
    refine wpList_plain hgd fun K hK => ?_
    unfold Oper.wp execOp
    simp only [ho, resolve, invoke, builtin, Sem.run_bind, Sem.run_pure, Result.andThen_ok, List.map_toArray, List.map_cons, List.map_nil, hs, hx, hv, hr]
    exact hK _ _ (h _ w (by rw [List.append_nil, ← hv]; exact hown) (Below.refl _ _))
  · obtain ⟨g, off, rfl, hg, hc⟩ := h3 hn
    exact wpList_appS hgd s x ho base v l hs hown g off news.length cu news (hx.trans hu) rfl hc hlen hbase h
/-- append(v, x...) of members. -/
theorem wpList_appMM (hgd : o.guard = none) (s x : Operand)
    (ho : o.op = .call { callee := .builtin .append, args := #[s, x], argTypes := #[22, 22] })
    (base : Nat) (v : Value) (l : List (Bs × Int)) (hs : a.eval s = v) (hown : MRow w base v l)
    (u : Value) (news : List (Bs × Int)) (hx : a.eval x = u) (hsrc : MS w u news)
    (hlen : l.length + news.length ≤ 1099511627000) (hbase : base ≤ w.heap.size)
    (h : ∀ v' w', MRow w' base v' (l ++ news) → Below base w w' → wpList Tryd.prog ops Q rest (a.put o.dst v') w') : wpList Tryd.prog ops Q (o :: rest) a w := by
  obtain ⟨au, cu, hu, h1, h2, h3⟩ := hsrc
  by_cases hn : news = []
  · subst hn
    obtain ⟨i0, hi, hz0, hz1, hz2⟩ := info_parts infoMem
    obtain ⟨va, vc, hv⟩ := hown.form
    have hle : l.length ≤ vc := by
      rcases hown.cells with ⟨e, e2⟩ | ⟨g, cap, e, _, _, h4, _⟩
      · subst e2; simp
      · rw [hv] at e; injection e with _ _ e; subst e; exact h4
    have hS : Src Tryd.prog i0.size 22 u 0 [] w := by
      subst hu
      cases au with
      | none => exact Src.ofNil w Tryd.underlying22 cu
      | some ad => exact Src.ofSlice w Tryd.underlying22 ad 0 cu [] (by simp) (fun j u h => by simp at h) (fun _ h => by cases h)
    have hr := run_append_nothing (P := Tryd.prog) w 22 22 o.type 77 i0 Tryd.underlying22 hi va l.length vc hle u hS
    refine wpList_plain hgd fun K hK => ?_
    unfold Oper.wp execOp
    simp only [ho, resolve, invoke, builtin, Sem.run_bind, Sem.run_pure, Result.andThen_ok, List.map_toArray, List.map_cons, List.map_nil, hs, hx, hv, hr]
    exact hK _ _ (h _ w (by rw [List.append_nil, ← hv]; exact hown) (Below.refl _ _))
  · obtain ⟨g, off, rfl, hg, hc⟩ := h3 hn
    exact wpList_appM hgd s x ho base v l hs hown g off news.length cu news (hx.trans hu) rfl hc hlen hbase h
end

def beh : Bs := [98, 101, 104, 105, 110, 100]
theorem SRow.lt {w : World} {b : Nat} {v : Value} {l : List Bs} (h : SRow w b v l) : ∀ k, v.ownBlock = some k → k < w.heap.size := by
  intro k hk
  rcases h.cells with ⟨rfl, _⟩ | ⟨g, cap, rfl, _, hg, _⟩
  · cases hk
  · cases hk; exact hg
theorem SRow.grown {w w' : World} {b : Nat} {row : Option Nat} {v : Value} {l : List Bs} (h : SRow w b v l) (hg : w.grownBy w' row) (hn : ∀ k, v.ownBlock = some k → row ≠ some k) : SRow w' b v l :=
  h.kept (fun k hk => hg.block k (h.lt k hk) (fun e => hn k hk e.symm))
section
variable {ops : Array Oper} {o : Oper} {rest : List Oper} {a : Act} {w : World} {Q : Exit → Act → World → Prop}
/-- append(v, x...): where the new slice lies, too. -/
theorem wpList_appAt (hgd : o.guard = none) (s x : Operand)
    (ho : o.op = .call { callee := .builtin .append, args := #[s, x], argTypes := #[26, 26] })
    (base : Nat) (v : Value) (l : List Bs) (hs : a.eval s = v) (hown : SRow w base v l)
    (u : Value) (news : List Bs) (hx : a.eval x = u) (hsrc : SS w u news)
    (hlen : l.length + news.length ≤ 8796093022208) (hbase : base ≤ w.heap.size)
    (h : ∀ v' w', SRow w' base v' (l ++ news) → w.grownBy w' v.ownBlock → (v'.ownBlock = v.ownBlock ∨ v'.ownBlock = some w.heap.size) → wpList Tryd.prog ops Q rest (a.put o.dst v') w') : wpList Tryd.prog ops Q (o :: rest) a w := by
  obtain ⟨au, cu, hu, h1, h2, h3⟩ := hsrc
  obtain ⟨i0, hi, hz0, hz1, hz2⟩ := info_parts infoStr
  by_cases hn : news = []
  · subst hn
    obtain ⟨va, vc, hv⟩ := hown.form
    have hle : l.length ≤ vc := by
      rcases hown.cells with ⟨e, e2⟩ | ⟨g, cap, e, _, _, h4, _⟩
      · subst e2; simp
      · rw [hv] at e; injection e with _ _ e; subst e; exact h4
    have hS : Src Tryd.prog i0.size 26 u 0 [] w := by
      subst hu
      cases au with
      | none => exact Src.ofNil w Tryd.underlying26 cu
      | some ad => exact Src.ofSlice w Tryd.underlying26 ad 0 cu [] (by simp) (fun j u h => by simp at h) (fun _ h => by cases h)
    have hr := run_append_nothing (P := Tryd.prog) w 26 26 o.type 9 i0 Tryd.underlying26 hi va l.length vc hle u hS
    refine wpList_plain hgd fun K hK => ?_
    unfold Oper.wp execOp
    simp only [ho, resolve, invoke, builtin, Sem.run_bind, Sem.run_pure, Result.andThen_ok, List.map_toArray, List.map_cons, List.map_nil, hs, hx, hv, hr]
    exact hK _ _ (h _ w (by rw [List.append_nil, ← hv]; exact hown) ⟨rfl, rfl, rfl, Nat.le_refl _, fun _ _ _ => rfl⟩ (.inl (by rw [hv])))
  · obtain ⟨g, off, rfl, hg, hc⟩ := h3 hn
    refine wpList_append_own_at w hgd s x 26 ho base 9 i0 (.string ⟨#[]⟩) 1 16 Tryd.underlying26 hi hz0 hz1 hz2 rfl (by decide) v l.length (sv l) hs hown ⟨g, off, none⟩ news.length cu (sv news) (hx.trans hu) (by rw [sv_len]; omega) (ssrc_news hc) (sone news)
      (by unfold maxLen; omega) (by omega) hbase (fun v' w' h2 h3 _ h5 => h v' w' ?_ h3 h5)
    unfold SRow
    rw [List.length_append, show sv (l ++ news) = sv l ++ sv news from by simp [sv]]
    exact h2
end
theorem SRow.snoc {w : World} {b : Nat} {v : Value} {l : List Bs} {x : Bs} (h : SRow w b v (l ++ [x])) : ∃ g cap, v = .slice (some ⟨g, 0, none⟩) (l.length + 1) cap ∧ l.length + 1 ≤ cap ∧ (l.length : Int) + 1 ≤ cap := by
  rcases h.cells with ⟨_, e⟩ | ⟨g, cap, e, _, _, h3, _⟩
  · simp at e
  · rw [List.length_append] at e h3
    exact ⟨g, cap, e, by simpa using h3, by simp at h3; omega⟩
/-- v is a list that was lent: it reads as l, and behind it stands a text. -/
def Lent (w : World) (base : Nat) (v : Value) (l : List Bs) : Prop :=
  ∃ g cap, v = .slice (some ⟨g, 0, none⟩) l.length cap ∧ SRow w base (.slice (some ⟨g, 0, none⟩) (l.length + 1) cap) (l ++ [beh])
theorem Lent.cells {w : World} {base : Nat} {v : Value} {l : List Bs} (h : Lent w base v l) :
    ∃ g cap, v = .slice (some ⟨g, 0, none⟩) l.length cap ∧ base ≤ g ∧ g < w.heap.size ∧ l.length + 1 ≤ cap ∧ cap ≤ maxLen ∧ (∀ i, i < l.length → w.cell? ⟨g, i, none⟩ = some (.string ⟨List.toArray (l.getD i [])⟩)) ∧ w.cell? ⟨g, l.length, none⟩ = some (.string ⟨List.toArray (beh)⟩) := by
  obtain ⟨g, cap, rfl, hr⟩ := h
  rcases hr.cells with ⟨e, _⟩ | ⟨g', cap', e, h1, h2, h3, h4, h5, _⟩
  · cases e
  · injection e with e1 _ e3
    injection e1 with e1
    injection e1 with e1 _ _
    subst e1 e3
    simp at h3 h5
    refine ⟨g, cap, rfl, h1, h2, h3, h4, fun i hi => ?_, ?_⟩
    · rw [h5 i (by omega), List.getElem?_append_left hi]
      rfl
    · rw [h5 l.length (by omega)]
      simp
theorem Lent.ss {w : World} {base : Nat} {v : Value} {l : List Bs} (h : Lent w base v l) : SS w v l := by
  obtain ⟨g, cap, rfl, h1, h2, h3, h4, h5, h6⟩ := h.cells
  exact SS.of (by omega) h4 h2 (fun i hi => by rw [Nat.zero_add]; exact h5 i hi)
theorem Lent.keep {W w : World} {base : Nat} {v : Value} {l : List Bs} (h : Lent W base v l) (hb : Below W.heap.size W w) : Lent w base v l := by
  obtain ⟨g, cap, e, hr⟩ := h
  exact ⟨g, cap, e, hr.keep hb⟩
theorem Lent.low {w : World} {b c : Nat} {v : Value} {l : List Bs} (h : Lent w b v l) (hc : c ≤ b) : Lent w c v l := by
  obtain ⟨g, cap, e, hr⟩ := h
  exact ⟨g, cap, e, hr.low hc⟩

set_option maxRecDepth 100000 in
set_option maxHeartbeats 400000 in
theorem lend_any (v : Value) (l : List Bs) (hl : l.length ≤ 1000000) (w : World) (hv : SS w v l) :
    Calls Tryd.prog 13 #[v] w fun e w' => ∃ u, e = .returned u ∧ Lent w' w.heap.size u l ∧ Below w.heap.size w w' := by
  have hf := hv.form
  obtain ⟨a, c, rfl⟩ := hf
  have HV := Lib.hid hv
  clear hv
  go_enter Tryd.func13, Tryd.ntmps13
  go_wp2_with (first
    | (at_builtin; refine wpList_appSS rfl (.tmp 4) (.tmp 5) rfl w.heap.size (.slice none 0 0) [] rfl (SRow.nil _ _) _ l rfl HV.out (by simp; omega) (Nat.le_refl _) ?_; rintro v1 w1 hS1 hb1; rw [List.nil_append] at hS1)
    | (at_builtin; refine wpList_appS rfl (.tmp 7) (.tmp 8) rfl w.heap.size _ l rfl (hS1.alloc _) w1.heap.size 0 1 1 [beh] rfl rfl (ssrc1 _ _ _) (by omega) (by simp; have := hb1.size; omega) ?_; rintro v2 w2 hS2 hb2; obtain ⟨g2, cap2, rfl, q3n, q3'⟩ := hS2.snoc)
    | fail)
  all_goals go_ret
  all_goals exact ⟨_, rfl, ⟨g2, cap2, rfl, hS2⟩, (Below.allocS hb1 (.cells #[.string ⟨List.toArray (beh)⟩] 9)).trans hb2⟩

set_option maxRecDepth 100000 in
set_option maxHeartbeats 400000 in
theorem kept_any (base : Nat) (u v : Value) (l : List Bs) (w : World) (hu : Lent w base u l) (hv : SS w v l) :
    Calls Tryd.prog 22 #[u, v] w fun e w' => e = .returned (.bool true) ∧ Below w.heap.size w w' := by
  obtain ⟨g, cap, rfl, h1, h2, h3, h4, h5, h6⟩ := hu.cells
  obtain ⟨b, d, rfl⟩ := hv.form
  have hsame := sametexts_self _ _ l w hu.ss hv
  have hq : (l.length : Int) + 1 ≤ (cap : Int) := by omega
  unfold maxLen at h4
  have q1 : IntKind.i64.wrap ((l.length : Int) + 1) = (l.length : Int) + 1 := IntWalk.i64_in _ (by omega)
  have HS := Lib.hid hsame
  clear hsame hu hv h5
  go_enter Tryd.func22, Tryd.ntmps22
  go_wp2_with fail
  refine HS.out.mono ?_
  rintro e w1 ⟨rfl, n, rfl⟩
  go_wp2_with fail
  all_goals (go_ret; exact ⟨rfl, below_drewN (Below.refl _ _) n⟩)
end Go.Proofs.YtbnjhfkmdejeaaaDoor

/- Lists of members held against one another; spoilt. -/
set_option linter.unusedSimpArgs false
set_option linter.unusedVariables false
namespace Go.Proofs.YtbnjhfkmdejeaaaDoor
open Go.RowKit Pl

theorem member_fields : ((Tryd.prog).fieldsOf 77).toList.map (fun f => (f.type, f.offset, f.name == "_")) = [(9, 0, false), (3, 1, false)] := by kernel_rfl
set_option maxHeartbeats 1000000 in
@[go_sem high] theorem eq_member (n : Bs) (k : Int) (n2 : Bs) (k2 : Int) (d : Nat) (w : World) :
    (Op.equalIn (d + 2) 77 (.agg #[.string ⟨List.toArray (n)⟩, .int .i64 (k)]) (.agg #[.string ⟨List.toArray (n2)⟩, .int .i64 (k2)])).run Tryd.prog w = .ok (decide (n = n2) && decide (k = k2)) w := by
  rw [run_equalIn_struct w (d + 1) 77 _ _ (by kernel_rfl) (by kernel_rfl)]
  have hf := member_fields
  generalize ((Tryd.prog).fieldsOf 77).toList = l at *
  rcases l with _ | ⟨f0, _ | ⟨f1, _ | ⟨f2, l⟩⟩⟩ <;> simp at hf
  obtain ⟨⟨a1, a2, a3⟩, ⟨b1, b2, b3⟩⟩ := hf
  have q0 : ∀ (n : Bs) (k : Int), (part 9 #[.string ⟨List.toArray (n)⟩, .int .i64 (k)] 0).run Tryd.prog w = .ok (.string ⟨List.toArray (n)⟩) w := fun n k => run_part_plain w (by simp [Program.plainKey, Tryd.underlying9]) rfl
  have q1 : ∀ (n : Bs) (k : Int), (part 3 #[.string ⟨List.toArray (n)⟩, .int .i64 (k)] 1).run Tryd.prog w = .ok (.int .i64 (k)) w := fun n k => run_part_plain w (by simp [Program.plainKey, Tryd.underlying3]) rfl
  have e0 := run_equalIn_string (P := Tryd.prog) w d 9 ⟨List.toArray n⟩ ⟨List.toArray n2⟩ Tryd.underlying9
  have e1 := run_equalIn_int (P := Tryd.prog) w d 3 .i64 .i64 k k2 Tryd.underlying3
  rw [← beq_toListBytes, str_beq] at e0
  simp only [Op.eqFields, a1, a2, b1, b2, a3, b3, ne_eq, not_false_eq_true, if_true, Sem.run_bind, q0, q1, e0, e1, Result.andThen_ok]
  by_cases h0 : n = n2
  · subst h0
    by_cases h1 : k = k2
    · subst h1; simp [Sem.run_bind, Sem.run_ite, q0, q1, e0, e1]
    · simp [Sem.run_bind, Sem.run_ite, q0, q1, e0, e1, h1]
  · simp [Sem.run_bind, Sem.run_ite, q0, q1, e0, e1, h0]

theorem MS.drewN {w : World} {v : Value} {l : List (Bs × Int)} (h : MS w v l) (n : Nat) : MS (w.drewN n) v l := h.keep (below_drewN (Below.refl _ _) n)

set_option maxRecDepth 100000 in
set_option maxHeartbeats 1000000 in
theorem samemembers_any (u v : Value) (l m : List (Bs × Int)) (w : World) (hu : MS w u l) (hv : MS w v m) :
    Calls Tryd.prog 23 #[u, v] w fun e w' => e = .returned (.bool (decide (l = m))) ∧ ∃ n, w' = w.drewN n := by
  obtain ⟨a, c, rfl⟩ := hu.form
  obtain ⟨b, d, rfl⟩ := hv.form
  have hls := hu.small
  generalize hr : decide (l = m) = r
  have HR := Lib.hid hr
  clear hr
  by_cases hl : l.length = m.length
  · have hl1 : ((l.length : Int) == (m.length : Int)) = true := by simp; omega
    have HL := Lib.hid hl
    clear hl
    go_enter Tryd.func23, Tryd.ntmps23
    go_wp2_with fail
    go_loopw [5, 6] (fun s5 s6 wr => ∃ (i : Nat) (q : Bool), i ≤ l.length ∧ s6 = .int .i64 i ∧ s5 = .bool q ∧ Hid ((q = true → l.take i = m.take i) ∧ (q = false → l ≠ m)) ∧ ∃ n, wr = w.drewN n) (fun _ s6 _ => l.length - (intOf s6).toNat)
    case atStart => exact ⟨0, true, by omega, rfl, rfl, Lib.hid ⟨fun _ => rfl, fun h => by cases h⟩, 0, rfl⟩
    case round =>
      obtain ⟨i, q, hi, rfl, rfl, HQ, nq, rfl⟩ := hrel
      cases q
      · have HZ : Hid (r = false) := Lib.hid (by rw [← HR.out]; simp [HQ.out.2 rfl])
        clear HQ
        go_wp2_with fail
        go_ret
        exact ⟨by rw [HZ.out]; rfl, nq, rfl⟩
      · by_cases hlt : i < l.length
        · have hlt' : (i : Int) < (l.length : Int) := by omega
          have hlm : i < m.length := by rw [← HL.out]; exact hlt
          have hlm' : (i : Int) < (m.length : Int) := by omega
          obtain ⟨g, off, rfl, _, c1, c1'⟩ := hu.at i hlt
          obtain ⟨g2, off2, rfl, _, c2, c2'⟩ := hv.at i hlm
          have HS : Hid (l.take (i + 1) = m.take (i + 1) ↔ l.getD i ([], 0) = m.getD i ([], 0)) := Lib.hid (by
            rw [List.take_succ_eq_append_getElem hlt, List.take_succ_eq_append_getElem hlm, HQ.out.1 rfl, List.append_cancel_left_eq]
            simp [List.getD, List.getElem?_eq_getElem hlt, List.getElem?_eq_getElem hlm])
          have HD : Hid (l.getD i ([], 0) ≠ m.getD i ([], 0) → l ≠ m) := Lib.hid (fun h e => h (by rw [e]))
          generalize l.getD i ([], 0) = x at *
          generalize m.getD i ([], 0) = y at *
          obtain ⟨n1, p1⟩ := x
          obtain ⟨n2, p2⟩ := y
          simp only at c1 c1' c2 c2'
          have HU := Lib.hid hu
          have HV := Lib.hid hv
          clear hu hv
          go_wp2_with fail
          go_quiet (fail)
          go_wp2_with fail
          exact ⟨⟨i + 1, decide (n1 = n2) && decide (p1 = p2), by omega, by go_num, rfl, Lib.hid ⟨fun h => HS.out.2 (by simpa using h), fun h => HD.out (by simpa using h)⟩, _, rfl⟩, by simp [intOf]; omega⟩
        · have hie : i = l.length := by omega
          have hd : decide ((i : Int) < (l.length : Int)) = false := by simp; omega
          have HZ : Hid (r = true) := Lib.hid (by
            rw [← HR.out]
            have h := HQ.out.1 rfl
            rw [hie, List.take_length, HL.out, List.take_length] at h
            simp [h])
          clear HQ
          go_wp2_with fail
          go_ret
          exact ⟨by rw [HZ.out]; rfl, nq, rfl⟩
  · have hl1 : ((l.length : Int) == (m.length : Int)) = false := by rw [beq_eq_false_iff_ne]; omega
    have HZ : Hid (r = false) := Lib.hid (by rw [← HR.out]; simp; intro e; exact hl (by rw [e]))
    clear hl
    go_enter Tryd.func23, Tryd.ntmps23
    go_wp2_with fail
    go_loopw [5, 6] (fun s5 s6 wr => s5 = .bool false ∧ s6 = .int .i64 0 ∧ wr = w) (fun _ s6 _ => 0)
    case atStart => exact ⟨rfl, rfl, rfl⟩
    case round =>
      obtain ⟨rfl, rfl, rfl⟩ := hrel
      go_wp2_with fail
      go_ret
      exact ⟨by rw [HZ.out]; rfl, 0, rfl⟩

theorem any_set {w : World} {g n : Nat} (h : ∀ j, j < n → ∃ x : Value, w.cell? ⟨g, j, none⟩ = some x) (i : Nat) (hi : i < n) (v : Value) : ∀ j, j < n → ∃ x : Value, (w.setCell ⟨g, i, none⟩ v).cell? ⟨g, j, none⟩ = some x := by
  intro j hj
  by_cases e : j = i
  · subst e
    obtain ⟨x, hx⟩ := h j hj
    exact ⟨_, World.cell?_setCell_same _ _ _ hx⟩
  · obtain ⟨y, hy⟩ := h j hj
    exact ⟨y, by rw [World.cell?_setCell_other _ _ _ _ (fun h => e (by injection h with _ h2 _; exact h2.symm))]; exact hy⟩
theorem MSrc.any {w : World} {g : Nat} {l : List (Bs × Int)} (h : MSrc w g 0 l) : ∀ j, j < l.length * 2 → ∃ x : Value, w.cell? ⟨g, j, none⟩ = some x := by
  intro j hj
  obtain ⟨i, hi | hi⟩ : ∃ i, j = i * 2 ∨ j = i * 2 + 1 := ⟨j / 2, by omega⟩
  · subst hi
    have := (h i (by omega)).1
    rw [Nat.zero_add] at this
    exact ⟨_, this⟩
  · subst hi
    have := (h i (by omega)).2
    rw [Nat.zero_add] at this
    exact ⟨_, this⟩


end Go.Proofs.YtbnjhfkmdejeaaaDoor
