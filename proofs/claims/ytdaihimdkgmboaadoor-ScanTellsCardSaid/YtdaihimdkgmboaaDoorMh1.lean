/- Below, ItemS, AppI, ScParts, ItemV, Ends. -/
import Derived.Test.YtdaihimdkgmboaaDoorRows
import Derived.Test.YtdaihimdkgmboaaDoorMg1
import Derived.Test.YtdaihimdkgmboaaDoorMg10
import Derived.Test.YtdaihimdkgmboaaDoorMg2
import Derived.Deep.Upon
import Derived.Test.YtdaihimdkgmboaaDoorMg13
set_option linter.unnecessarySimpa false

/- A number from 0 on, below n: the walk of Below. -/
set_option linter.unusedSimpArgs false
set_option linter.unusedVariables false
namespace Go.Proofs.YtdaihimdkgmboaaDoor
open Go.RowKit

theorem tmod_small (x n : Int) (h : 0 < n) : -n < x.tmod n ∧ x.tmod n < n := by
  rw [Int.tmod_eq_emod]
  have h1 := Int.emod_nonneg x (Int.ne_of_gt h)
  have h2 := Int.emod_lt_of_pos x h
  split <;> omega
theorem tmod_twice (x n : Int) (h : 0 < n) : (x.tmod n + n).tmod n = x % n := by
  have hs := tmod_small x n h
  rw [Int.tmod_eq_emod_of_nonneg (by omega), Int.add_emod_right, Int.tmod_eq_emod]
  split
  · simp
  · rw [show (x % n - (n.natAbs : Int)) = x % n + n * (-1) from by omega, Int.add_mul_emod_self_left, Int.emod_emod]
/-- x % n as a number of ours. -/
def modN (x : Int) (n : Nat) : Nat := (x % (n : Int)).toNat
theorem modN_eq (x : Int) (n : Nat) (h : 0 < n) : ((modN x n : Nat) : Int) = x % (n : Int) := by
  unfold modN
  rw [Int.toNat_of_nonneg (Int.emod_nonneg x (by omega))]
theorem modN_lt (x : Int) (n : Nat) (h : 0 < n) : modN x n < n := by
  have := modN_eq x n h
  have h2 := Int.emod_lt_of_pos x (show (0 : Int) < (n : Int) from by omega)
  omega
set_option maxRecDepth 100000 in
theorem below_any (x : Int) (n : Nat) (h0 : 0 < n) (hn : n ≤ 1000000000) (w : World) :
    Calls Tryd.prog 20 #[.int .i64 (x), .int .i64 ((n : Int))] w fun e w' => e = .returned (.int .i64 ((modN x n : Int))) ∧ w' = w := by
  have h1 := tmod_small x n (by omega)
  have h2 := tmod_twice x n (by omega)
  rw [← modN_eq x n h0] at h2
  have z : ((n : Int) == 0) = false := by simp; omega
  have z2 : (n : Int) ≠ 0 := by omega
  have w1 : IntKind.i64.wrap (x.tmod n + n) = x.tmod n + n := by rw [IntKind.wrap_i64]; omega
  have hm := modN_lt x n h0
  have w2 : IntKind.i64.wrap (x.tmod n) = x.tmod n := by rw [IntKind.wrap_i64]; omega
  have w3 : IntKind.i64.wrap ((modN x n : Nat) : Int) = ((modN x n : Nat) : Int) := by rw [IntKind.wrap_i64]; omega
  go_enter Tryd.func20, Tryd.ntmps20
  go_wp2_with fail
  all_goals (go_ret; exact ⟨by simp [w1, w2, w3, h2], rfl⟩)
end Go.Proofs.YtdaihimdkgmboaaDoor

/- Lists of items held against one another; spoilt. -/
set_option linter.unusedSimpArgs false
set_option linter.unusedVariables false
namespace Go.Proofs.YtdaihimdkgmboaaDoor
open Go.RowKit Pl

theorem item_fields : ((Tryd.prog).fieldsOf 44).toList.map (fun f => (f.type, f.offset, f.name == "_")) = [(9, 0, false), (9, 1, false)] := by kernel_rfl
set_option maxHeartbeats 1000000 in
@[go_sem high] theorem eq_item (n k n2 k2 : Bs) (d : Nat) (w : World) :
    (Op.equalIn (d + 2) 44 (.agg #[.string ⟨List.toArray (n)⟩, .string ⟨List.toArray (k)⟩]) (.agg #[.string ⟨List.toArray (n2)⟩, .string ⟨List.toArray (k2)⟩])).run Tryd.prog w = .ok (decide (n = n2) && decide (k = k2)) w := by
  rw [run_equalIn_struct w (d + 1) 44 _ _ (by kernel_rfl) (by kernel_rfl)]
  have hf := item_fields
  generalize ((Tryd.prog).fieldsOf 44).toList = l at *
  rcases l with _ | ⟨f0, _ | ⟨f1, _ | ⟨f2, l⟩⟩⟩ <;> simp at hf
  obtain ⟨⟨a1, a2, a3⟩, ⟨b1, b2, b3⟩⟩ := hf
  have q0 : ∀ (n k : Bs), (part 9 #[.string ⟨List.toArray (n)⟩, .string ⟨List.toArray (k)⟩] 0).run Tryd.prog w = .ok (.string ⟨List.toArray (n)⟩) w := fun n k => run_part_plain w (by simp [Program.plainKey, Tryd.underlying9]) rfl
  have q1 : ∀ (n k : Bs), (part 9 #[.string ⟨List.toArray (n)⟩, .string ⟨List.toArray (k)⟩] 1).run Tryd.prog w = .ok (.string ⟨List.toArray (k)⟩) w := fun n k => run_part_plain w (by simp [Program.plainKey, Tryd.underlying9]) rfl
  have e0 := run_equalIn_string (P := Tryd.prog) w d 9 ⟨List.toArray n⟩ ⟨List.toArray n2⟩ Tryd.underlying9
  have e1 := run_equalIn_string (P := Tryd.prog) w d 9 ⟨List.toArray k⟩ ⟨List.toArray k2⟩ Tryd.underlying9
  rw [← beq_toListBytes, str_beq] at e0 e1
  simp only [Op.eqFields, a1, a2, b1, b2, a3, b3, ne_eq, not_false_eq_true, if_true, Sem.run_bind, q0, q1, e0, e1, Result.andThen_ok]
  by_cases h0 : n = n2
  · subst h0
    by_cases h1 : k = k2
    · subst h1; simp [Sem.run_bind, Sem.run_ite, q0, q1, e0, e1]
    · simp [Sem.run_bind, Sem.run_ite, q0, q1, e0, e1, h1]
  · simp [Sem.run_bind, Sem.run_ite, q0, q1, e0, e1, h0]

theorem IL.drewN {w : World} {v : Value} {l : List It} (h : IL w v l) (n : Nat) : IL (w.drewN n) v l := h.keep (below_drewN (Below.refl _ _) n)

set_option maxRecDepth 100000 in
set_option maxHeartbeats 1000000 in
theorem sameitems_any (u v : Value) (l m : List It) (w : World) (hu : IL w u l) (hv : IL w v m) :
    Calls Tryd.prog 15 #[u, v] w fun e w' => e = .returned (.bool (decide (l = m))) ∧ ∃ n, w' = w.drewN n := by
  obtain ⟨a, c, rfl⟩ := hu.form
  obtain ⟨b, d, rfl⟩ := hv.form
  have hls := hu.small
  generalize hr : decide (l = m) = r
  have HR := Lib.hid hr
  clear hr
  by_cases hl : l.length = m.length
  · have hl1 : ((l.length : Int) == (m.length : Int)) = true := by simp; omega
    have HL := Lib.hid hl
    clear hl
    go_enter Tryd.func15, Tryd.ntmps15
    go_wp2_with fail
    go_loopw [5, 6] (fun s5 s6 wr => ∃ (i : Nat) (q : Bool), i ≤ l.length ∧ s6 = .int .i64 i ∧ s5 = .bool q ∧ Hid ((q = true → l.take i = m.take i) ∧ (q = false → l ≠ m)) ∧ ∃ n, wr = w.drewN n) (fun _ s6 _ => l.length - (intOf s6).toNat)
    case atStart => exact ⟨0, true, by omega, rfl, rfl, Lib.hid ⟨fun _ => rfl, fun h => by cases h⟩, 0, rfl⟩
    case round =>
      obtain ⟨i, q, hi, rfl, rfl, HQ, nq, rfl⟩ := hrel
      cases q
      · have HZ : Hid (r = false) := Lib.hid (by rw [← HR.out]; simp [HQ.out.2 rfl])
        clear HQ
        go_wp2_with fail
        go_ret
        exact ⟨by rw [HZ.out]; rfl, nq, rfl⟩
      · by_cases hlt : i < l.length
        · have hlt' : (i : Int) < (l.length : Int) := by omega
          have hlm : i < m.length := by rw [← HL.out]; exact hlt
          have hlm' : (i : Int) < (m.length : Int) := by omega
          obtain ⟨g, off, rfl, _, c1, c1'⟩ := hu.at i hlt
          obtain ⟨g2, off2, rfl, _, c2, c2'⟩ := hv.at i hlm
          have HS : Hid (l.take (i + 1) = m.take (i + 1) ↔ l.getD i ([], []) = m.getD i ([], [])) := Lib.hid (by
            rw [List.take_succ_eq_append_getElem hlt, List.take_succ_eq_append_getElem hlm, HQ.out.1 rfl, List.append_cancel_left_eq]
            simp [List.getD, List.getElem?_eq_getElem hlt, List.getElem?_eq_getElem hlm])
          have HD : Hid (l.getD i ([], []) ≠ m.getD i ([], []) → l ≠ m) := Lib.hid (fun h e => h (by rw [e]))
          generalize l.getD i ([], []) = x at *
          generalize m.getD i ([], []) = y at *
          obtain ⟨n1, p1⟩ := x
          obtain ⟨n2, p2⟩ := y
          simp only at c1 c1' c2 c2'
          have HU := Lib.hid hu
          have HV := Lib.hid hv
          clear hu hv
          go_wp2_with fail
          go_quiet (fail)
          go_wp2_with fail
          exact ⟨⟨i + 1, decide (n1 = n2) && decide (p1 = p2), by omega, by go_num, rfl, Lib.hid ⟨fun h => HS.out.2 (by simpa using h), fun h => HD.out (by simpa using h)⟩, _, rfl⟩, by simp [intOf]; omega⟩
        · have hie : i = l.length := by omega
          have hd : decide ((i : Int) < (l.length : Int)) = false := by simp; omega
          have HZ : Hid (r = true) := Lib.hid (by
            rw [← HR.out]
            have h := HQ.out.1 rfl
            rw [hie, List.take_length, HL.out, List.take_length] at h
            simp [h])
          clear HQ
          go_wp2_with fail
          go_ret
          exact ⟨by rw [HZ.out]; rfl, nq, rfl⟩
  · have hl1 : ((l.length : Int) == (m.length : Int)) = false := by rw [beq_eq_false_iff_ne]; omega
    have HZ : Hid (r = false) := Lib.hid (by rw [← HR.out]; simp; intro e; exact hl (by rw [e]))
    clear hl
    go_enter Tryd.func15, Tryd.ntmps15
    go_wp2_with fail
    go_loopw [5, 6] (fun s5 s6 wr => s5 = .bool false ∧ s6 = .int .i64 0 ∧ wr = w) (fun _ s6 _ => 0)
    case atStart => exact ⟨rfl, rfl, rfl⟩
    case round =>
      obtain ⟨rfl, rfl, rfl⟩ := hrel
      go_wp2_with fail
      go_ret
      exact ⟨by rw [HZ.out]; rfl, 0, rfl⟩

theorem any_set {w : World} {g n : Nat} (h : ∀ j, j < n → ∃ x : Value, w.cell? ⟨g, j, none⟩ = some x) (i : Nat) (hi : i < n) (v : Value) : ∀ j, j < n → ∃ x : Value, (w.setCell ⟨g, i, none⟩ v).cell? ⟨g, j, none⟩ = some x := by
  intro j hj
  by_cases e : j = i
  · subst e
    obtain ⟨x, hx⟩ := h j hj
    exact ⟨_, World.cell?_setCell_same _ _ _ hx⟩
  · obtain ⟨y, hy⟩ := h j hj
    exact ⟨y, by rw [World.cell?_setCell_other _ _ _ _ (fun h => e (by injection h with _ h2 _; exact h2.symm))]; exact hy⟩
theorem ISrc.any {w : World} {g : Nat} {l : List It} (h : ISrc w g 0 l) : ∀ j, j < l.length * 2 → ∃ x : Value, w.cell? ⟨g, j, none⟩ = some x := by
  intro j hj
  obtain ⟨i, hi | hi⟩ : ∃ i, j = i * 2 ∨ j = i * 2 + 1 := ⟨j / 2, by omega⟩
  · subst hi
    have := (h i (by omega)).1
    rw [Nat.zero_add] at this
    exact ⟨_, this⟩
  · subst hi
    have := (h i (by omega)).2
    rw [Nat.zero_add] at this
    exact ⟨_, this⟩

set_option maxRecDepth 100000 in
set_option maxHeartbeats 1000000 in
theorem spoili_any (base : Nat) (v : Value) (l : List It) (w : World) (hv : IRow w base v l) :
    Calls Tryd.prog 18 #[v] w fun e w' => e = .returned (.tuple #[]) ∧ Mod v.ownBlock.toList w w' := by
  rcases hv.cells with ⟨rfl, rfl⟩ | ⟨g, cap, rfl, h1, h2, h3, h4, h5, h6⟩
  · go_enter Tryd.func18, Tryd.ntmps18
    go_wp2_with fail
    go_loopw [2] (fun s2 wr => s2 = .int .i64 0 ∧ wr = w) (fun s2 _ => 0)
    case atStart => exact ⟨rfl, rfl⟩
    case round =>
      obtain ⟨rfl, rfl⟩ := hrel
      go_wp2_with fail
      refine bodyPost_end (results_none rfl _ _ _) rfl ?_
      exact ⟨rfl, Mod.refl _ _⟩
  · unfold maxLen at h4
    have H5 := Lib.hid h5.any
    have H6 := Lib.hid h6
    clear h5 h6 hv
    go_enter Tryd.func18, Tryd.ntmps18
    go_wp2_with fail
    go_loopw [2] (fun s2 wr => ∃ i : Nat, i ≤ l.length ∧ s2 = .int .i64 i ∧ Hid (∀ j, j < l.length * 2 → ∃ x : Value, wr.cell? ⟨g, j, none⟩ = some x) ∧ Hid (∀ o, wr.frozen? ⟨g, o, none⟩ = false) ∧ Mod [g] w wr) (fun s2 _ => l.length - (intOf s2).toNat)
    case atStart => exact ⟨0, by omega, rfl, H5, H6, Mod.refl _ _⟩
    case round =>
      obtain ⟨i, hi, rfl, HC, HF, hm⟩ := hrel
      by_cases hlt : i < l.length
      · have hlt' : (i : Int) < (l.length : Int) := by omega
        obtain ⟨x, hx⟩ := HC.out (i * 2) (by omega)
        obtain ⟨y, hy⟩ := HC.out (i * 2 + 1) (by omega)
        have hf := HF.out (i * 2)
        have hf2 := HF.out (i * 2 + 1)
        go_wp2_with fail
        refine ⟨⟨i + 1, by omega, by go_num, Lib.hid (any_set (any_set HC.out _ (by omega) _) _ (by omega) _), Lib.hid (fun o => by rw [World.frozen?_setCell, World.frozen?_setCell]; exact HF.out o), (hm.setCell (.inl (by simp)) _).setCell (.inl (by simp)) _⟩, by simp [intOf]; omega⟩
      · have hlt' : ¬ (i : Int) < (l.length : Int) := by omega
        go_wp2_with fail
        refine bodyPost_end (results_none rfl _ _ _) rfl ?_
        exact ⟨rfl, hm⟩

end Go.Proofs.YtdaihimdkgmboaaDoor

/- Whole lists of items appended; parts of lists. -/
set_option linter.unusedSimpArgs false
set_option linter.unusedVariables false
namespace Go.Proofs.YtdaihimdkgmboaaDoor
open Go.RowKit Pl

section
variable {ops : Array Oper} {o : Oper} {rest : List Oper} {a : Act} {w : World} {Q : Exit → Act → World → Prop}
/-- append(v, x...) of items, v own, x any. -/
theorem wp_appII {K : Act → World → Prop} (s x : Operand)
    (ho : o.op = .call { callee := .builtin .append, args := #[s, x], argTypes := #[25, 25] })
    (base : Nat) (v : Value) (l : List It) (hs : a.eval s = v) (hown : IRow w base v l)
    (u : Value) (news : List It) (hx : a.eval x = u) (hsrc : IL w u news)
    (hlen : l.length + news.length ≤ 1099511627000) (hbase : base ≤ w.heap.size)
    (h : ∀ v' w', IRow w' base v' (l ++ news) → Below base w w' → K (a.put o.dst v') w') : o.wp Tryd.prog a w K Q := by
  obtain ⟨au, cu, hu, h1, h2, h3⟩ := hsrc
  by_cases hn : news = []
  · subst hn
    obtain ⟨i0, hi, hz0, hz1, hz2⟩ := info_parts infoIt
    obtain ⟨va, vc, hv⟩ := hown.form
    have hle : l.length ≤ vc := by
      rcases hown.cells with ⟨e, e2⟩ | ⟨g, cap, e, _, _, h4, _⟩
      · subst e2; simp
      · rw [hv] at e; injection e with _ _ e; subst e; exact h4
    have hS : Src Tryd.prog i0.size 25 u 0 [] w := by
      subst hu
      cases au with
      | none => exact Src.ofNil w Tryd.underlying25 cu
      | some ad => exact Src.ofSlice w Tryd.underlying25 ad 0 cu [] (by simp) (fun j u h => by simp at h) (fun _ h => by cases h)
    have hr := run_append_nothing (P := Tryd.prog) w 25 25 o.type 44 i0 Tryd.underlying25 hi va l.length vc hle u hS
    unfold Oper.wp execOp
    simp only [ho, resolve, invoke, builtin, Sem.run_bind, Sem.run_pure, Result.andThen_ok, List.map_toArray, List.map_cons, List.map_nil, hs, hx, hv, hr]
    exact h _ w (by rw [List.append_nil, ← hv]; exact hown) (Below.refl _ _)
  · obtain ⟨g, off, rfl, hg, hc⟩ := h3 hn
    exact wp_appI s x ho base v l hs hown g off news.length cu news (hx.trans hu) rfl hc hlen hbase h
theorem wpList_appII (hgd : o.guard = none) (s x : Operand)
    (ho : o.op = .call { callee := .builtin .append, args := #[s, x], argTypes := #[25, 25] })
    (base : Nat) (v : Value) (l : List It) (hs : a.eval s = v) (hown : IRow w base v l)
    (u : Value) (news : List It) (hx : a.eval x = u) (hsrc : IL w u news)
    (hlen : l.length + news.length ≤ 1099511627000) (hbase : base ≤ w.heap.size)
    (h : ∀ v' w', IRow w' base v' (l ++ news) → Below base w w' → wpList Tryd.prog ops Q rest (a.put o.dst v') w') : wpList Tryd.prog ops Q (o :: rest) a w :=
  wpList_plain hgd fun _ hK => wp_appII s x ho base v l hs hown u news hx hsrc hlen hbase fun v' w' h2 h3 => hK _ _ (h v' w' h2 h3)
theorem step_appII {K : Act → World → Prop} {E : Prop} (hgd : o.guard = none) (s x : Operand)
    (ho : o.op = .call { callee := .builtin .append, args := #[s, x], argTypes := #[25, 25] })
    (base : Nat) (v : Value) (l : List It) (hs : a.eval s = v) (hown : IRow w base v l)
    (u : Value) (news : List It) (hx : a.eval x = u) (hsrc : IL w u news)
    (hlen : l.length + news.length ≤ 1099511627000) (hbase : base ≤ w.heap.size)
    (h : ∀ v' w', IRow w' base v' (l ++ news) → Below base w w' → K (a.put o.dst v') w') :
    if Region.wanted o (yielded ops a.tmps) = true then Oper.wp Tryd.prog o a w K Q else E := by
  have hw : Region.wanted o (yielded ops a.tmps) = true := by simp [Region.wanted, hgd]
  rw [if_pos hw]
  exact wp_appII s x ho base v l hs hown u news hx hsrc hlen hbase h
end

/-! ### parts -/
theorem getD_takeI (l : List It) (k i : Nat) (hi : i < k) : (l.take k).getD i ([], []) = l.getD i ([], []) := by
  simp [List.getD_eq_getElem?_getD, List.getElem?_take, hi]
theorem getD_dropI (l : List It) (k i : Nat) : (l.drop k).getD i ([], []) = l.getD (k + i) ([], []) := by
  simp [List.getD_eq_getElem?_getD]
/-- A part up to a place. -/
theorem IL.upto {w : World} {a : Option Addr} {c : Nat} {l : List It} (h : IL w (.slice a l.length c) l) (k : Nat) (hk : k ≤ l.length) : IL w (.slice a k c) (l.take k) := by
  obtain ⟨a', cap, h1, h2, h3, h5⟩ := h
  injection h1 with e1 _ e3
  subst e1 e3
  have hl : (l.take k).length = k := by simp; omega
  refine ⟨a, c, by rw [hl], by omega, h3, fun hn => ?_⟩
  obtain ⟨g, off, e, hg, hc⟩ := h5 (by intro e; rw [e] at hn; simp at hn)
  exact ⟨g, off, e, hg, fun i hi => by rw [getD_takeI _ _ _ (by omega)]; exact hc i (by omega)⟩
end Go.Proofs.YtdaihimdkgmboaaDoor

/- A range that is cut: the walk of ScanParts. -/
set_option linter.unusedSimpArgs false
set_option linter.unusedVariables false
namespace Go.Proofs.YtdaihimdkgmboaaDoor
open Go.RowKit Pl

namespace Pl
theorem take_first (X Y : List It) (k : Nat) : (X.take k).length ≤ ((X ++ Y).take k).length ∧ ((X ++ Y).take k).take (X.take k).length = X.take k := by
  rcases Nat.le_total k X.length with h | h
  · rw [List.take_append_of_le_length h]
    exact ⟨Nat.le_refl _, List.take_length⟩
  · rw [List.take_of_length_le h]
    refine ⟨by rw [List.length_take, List.length_append]; omega, ?_⟩
    rw [List.take_take, Nat.min_eq_left h, List.take_left]
theorem wI_parts (f c e : Bs) (l : List It) (h : Rise l) (h1 : ¬ c < f) (h2 : e = [] ∨ ¬ e < c) (hc : c ≠ []) : wI f e l = wI f c l ++ wI c e l := by
  rw [wI_all f e l h, wI_all f c l h, wI_all c e l h]
  exact parts f c e l h h1 h2 hc
end Pl
theorem rep_small {l : List It} {t : Tr} (hl : l.length ≤ 40) (h : RepT t (ofI [] l).1) : (ofI [] l).1.length ≤ 40 := by
  have := ofI_len l []
  simp at this; omega

set_option maxRecDepth 100000 in
set_option maxHeartbeats 8000000 in
theorem scanparts_any (v : Value) (l : List It) (hsh : ∀ x ∈ l, x.1.length ≤ 9223372036854775807 ∧ x.2.length ≤ 9223372036854775807) (a b c : Bs) (mo : Int) (w : World) (hk : KT w) (hv : IL w v l) :
    Calls Tryd.prog 6 #[v, .agg #[.string ⟨List.toArray (a)⟩, .string ⟨List.toArray (b)⟩, .string ⟨List.toArray (c)⟩], .int .i64 (mo)] w fun e w' => e = .returned (.bool true) ∧ Below w.heap.size w w' := by
  have B0 := Blk.new w #[.string ⟨List.toArray (a)⟩, .string ⟨List.toArray (b)⟩, .string ⟨List.toArray (c)⟩] 45
  have hb0 : Below w.heap.size w (w.alloc (.cells #[.string ⟨List.toArray (a)⟩, .string ⟨List.toArray (b)⟩, .string ⟨List.toArray (c)⟩] 45)) := Below.allocS (Below.refl _ _) _
  have HW := Lib.hid (works11_any _ (hk.keep hb0))
  have HO := Lib.hid (fun W (hb : Below w.heap.size w W) => tof_any v l hsh W (hk.keep hb) (hv.keep hb))
  obtain ⟨va, vc, rfl⟩ := hv.form
  have hls := hv.small
  have HB0 := Lib.hid B0
  have Hb0 := Lib.hid hb0
  clear hsh hk hv B0 hb0
  go_enter Tryd.func6, Tryd.ntmps6
  go_wp2_with fail
  refine HW.out.mono ?_
  rintro e w1 ⟨rfl, hb1⟩
  have hw1 := Hb0.out.trans (hb1.mono Hb0.out.size)
  have HB1 := Lib.hid (HB0.out.keep hb1)
  clear HW HB0 Hb0 hb1
  go_wp2_with fail
  refine (HO.out w1 hw1).mono ?_
  rintro e w2 ⟨hb2, h | h⟩
  · obtain ⟨hc0, pt, t, rfl, hT, hR⟩ := h
    have hw2 := hw1.trans (hb2.mono hw1.size)
    have B2 := HB1.out.keep hb2
    have c0 : w2.cell? ⟨w.heap.size, 0, none⟩ = some (.string ⟨List.toArray (a)⟩) := B2.cell 0
    have c1 : w2.cell? ⟨w.heap.size, 1, none⟩ = some (.string ⟨List.toArray (b)⟩) := B2.cell 1
    have c2 : w2.cell? ⟨w.heap.size, 2, none⟩ = some (.string ⟨List.toArray (c)⟩) := B2.cell 2
    by_cases h1 : 40 < l.length
    · have d1 : decide ((40 : Int) < (l.length : Int)) = true := by simp only [decide_eq_true_eq]; omega
      clear hc0 hT hR h1 B2
      go_wp2_with fail
      go_ret
      exact ⟨rfl, hw2⟩
    have d1 : decide ((40 : Int) < (l.length : Int)) = false := by simp only [decide_eq_false_iff_not]; omega
    by_cases h2 : b < a
    · have d2 : decide (b < a) = true := by simpa using h2
      clear hc0 hT hR h1 h2 B2
      go_wp2_with fail
      go_ret
      exact ⟨rfl, hw2⟩
    have d2 : decide (b < a) = false := by simpa using h2
    by_cases h3 : c ≠ [] ∧ c < b
    · have d3 : c.isEmpty = false := by simpa using h3.1
      have d4 : decide (c < b) = true := by simpa using h3.2
      clear hc0 hT hR h1 h2 h3 B2
      go_wp2_with fail
      go_ret
      exact ⟨rfl, hw2⟩
    have h3' : c = [] ∨ ¬ c < b := by
      by_cases h : c = []
      · exact .inl h
      · exact .inr (fun h' => h3 ⟨h, h'⟩)
    by_cases h4 : b = []
    · subst h4
      by_cases hce : c = []
      · subst hce
        clear hc0 hT hR h1 h2 h3 h3' B2
        go_wp2_with fail
        go_ret
        exact ⟨rfl, hw2⟩
      · have d6 : c.isEmpty = false := by simpa using hce
        have d7 : decide (c < []) = false := by simp
        clear hc0 hT hR h1 h2 h3 h3' B2 hce
        go_wp2_with fail
        go_ret
        exact ⟨rfl, hw2⟩
    have d5 : b.isEmpty = false := by simpa using h4
    have hris := hR.rise
    have hLs := rep_small (by omega) hR
    have hcut := wI_parts a b c _ hris h2 h3' h4
    generalize (ofI [] l).1 = L at *
    have hm := modN_lt mo 16 (by omega)
    have HBL := Lib.hid (below_any mo 16 (by omega) (by omega))
    rw [show ((16 : Nat) : Int) = 16 from rfl] at HBL
    have HC := Lib.hid (fun f e W hW => count_any pt t L hR (by omega) f e W hW)
    have HR := Lib.hid (fun f e W hW => range_yes pt t L hR (by omega) f e (modN mo 16 + 1) (by omega) (by omega) W hW)
    rw [show ((modN mo 16 + 1 : Nat) : Int) = 1 + (modN mo 16 : Int) from by omega] at HR
    obtain ⟨f1, f2⟩ := take_first (wI a b L) (wI b c L) (modN mo 16 + 1)
    rw [← hcut] at f1 f2
    have hsum : ((wI a b L).length : Int) + ((wI b c L).length : Int) = ((wI a c L).length : Int) := by rw [hcut, List.length_append]; omega
    have hlz := wI_len a c L
    have hlx := wI_len a b L
    have hly := wI_len b c L
    have HT2 := Lib.hid hT
    have HF1 := Lib.hid f1
    have HF2 := Lib.hid f2
    have HB2 := Lib.hid B2
    have H3 := Lib.hid h3'
    clear hc0 hT hR h1 h2 h3 h4 h3' hris hcut B2 f1 f2 HB1 HO hb2 hw1
    have HX : Hid (((wI a b L).take (modN mo 16 + 1)).length ≤ 16) := Lib.hid (by rw [List.length_take]; omega)
    have HY : Hid (((wI a c L).take (modN mo 16 + 1)).length ≤ 16) := Lib.hid (by rw [List.length_take]; omega)
    generalize modN mo 16 = m at *
    generalize nextP (wI a c L) (m + 1) = n1 at *
    have HCab := Lib.hid (fun W hW => HC.out a b W hW)
    have HCbc := Lib.hid (fun W hW => HC.out b c W hW)
    have HCac := Lib.hid (fun W hW => HC.out a c W hW)
    have HRac := Lib.hid (fun W hW => HR.out a c W hW)
    have HRab := Lib.hid (fun W hW => HR.out a b W hW)
    clear HC HR
    generalize (wI a b L).take (m + 1) = F at *
    generalize (wI a c L).take (m + 1) = G at *
    generalize (wI a b L).length = x at *
    generalize (wI b c L).length = y at *
    generalize (wI a c L).length = z at *
    have e1 : (((x : Int) + (y : Int)) == (z : Int)) = true := by rw [beq_iff_eq]; exact hsum
    have e2 : (((x : Int) + (y : Int)) != (z : Int)) = false := by simpa using hsum
    have bx : (x : Int) ≤ 40 := by omega
    have by' : (y : Int) ≤ 40 := by omega
    have hwr : IntKind.i64.wrap ((x : Int) + (y : Int)) = (x : Int) + (y : Int) := by rw [IntKind.wrap_i64]; omega
    have e3 : (IntKind.i64.wrap ((x : Int) + (y : Int)) != (z : Int)) = false := by rw [hwr]; exact e2
    clear hsum
    by_cases hce : c = []
    · subst hce
      clear H3
      go_wp2_with fail
      refine (HBL.out _).mono ?_
      rintro e wz ⟨rfl, rfl⟩
      clear HBL
      go_wp2_with fail
      refine wpH_start (by kernel_rfl) (fun hS => ?_)
      (refine wpH_pure 0 ?_ (oi := { dst := some 56, op := Op.move (Operand.tmp 7), type := 30, pos := "theorems.go:78", after := #[], guard := none }) rfl (by kernel_rfl) (by kernel_rfl) (by kernel_rfl) (by rfl) hS (fun _ _ _ h => h) ?_ ?_; rotate_left; focus (intro w; go_simp; try with_reducible rfl))
      try simp only [Act.put, List.setIfInBounds_toArray, List.set_cons_zero, List.set_cons_succ]
      (refine wpH_pure 1 ?_ (oi := { dst := some 57, op := Op.indexAddr 45 (Operand.tmp 4) (Operand.const (Value.int IntKind.i64 0)), type := 0, pos := "theorems.go:78", after := #[], guard := none }) rfl (by kernel_rfl) (by kernel_rfl) (by kernel_rfl) (by rfl) hS (fun _ _ _ h => h) ?_ ?_; rotate_left; focus (intro w; go_simp; try with_reducible rfl))
      try simp only [Act.put, List.setIfInBounds_toArray, List.set_cons_zero, List.set_cons_succ]
      refine wpH_load 2 (.string ⟨List.toArray (a)⟩) (oi := { dst := some 58, op := Op.load 9 (Operand.tmp 57), type := 9, pos := "theorems.go:78", after := #[{ on := 1, ground := Ground.data }], guard := none }) rfl (by kernel_rfl) (by kernel_rfl) (by kernel_rfl) (by rfl) hS (fun _ _ _ h => h) (fun w hb => (by have q := keepC hb c0; go_simp; try rfl)) ?_
      try simp only [Act.put, List.setIfInBounds_toArray, List.set_cons_zero, List.set_cons_succ]
      (refine wpH_pure 3 ?_ (oi := { dst := some 59, op := Op.indexAddr 45 (Operand.tmp 4) (Operand.const (Value.int IntKind.i64 1)), type := 0, pos := "theorems.go:78", after := #[], guard := none }) rfl (by kernel_rfl) (by kernel_rfl) (by kernel_rfl) (by rfl) hS (fun _ _ _ h => h) ?_ ?_; rotate_left; focus (intro w; go_simp; try with_reducible rfl))
      try simp only [Act.put, List.setIfInBounds_toArray, List.set_cons_zero, List.set_cons_succ]
      refine wpH_load 4 (.string ⟨List.toArray (b)⟩) (oi := { dst := some 60, op := Op.load 9 (Operand.tmp 59), type := 9, pos := "theorems.go:78", after := #[{ on := 3, ground := Ground.data }], guard := none }) rfl (by kernel_rfl) (by kernel_rfl) (by kernel_rfl) (by rfl) hS (fun _ _ _ h => h) (fun w hb => (by have q := keepC hb c1; go_simp; try rfl)) ?_
      try simp only [Act.put, List.setIfInBounds_toArray, List.set_cons_zero, List.set_cons_succ]
      (refine wpH_pure 6 ?_ (oi := { dst := some 62, op := Op.move (Operand.tmp 7), type := 30, pos := "theorems.go:78", after := #[], guard := none }) rfl (by kernel_rfl) (by kernel_rfl) (by kernel_rfl) (by rfl) hS (fun _ _ _ h => h) ?_ ?_; rotate_left; focus (intro w; go_simp; try with_reducible rfl))
      try simp only [Act.put, List.setIfInBounds_toArray, List.set_cons_zero, List.set_cons_succ]
      (refine wpH_pure 7 ?_ (oi := { dst := some 63, op := Op.indexAddr 45 (Operand.tmp 4) (Operand.const (Value.int IntKind.i64 1)), type := 0, pos := "theorems.go:78", after := #[], guard := none }) rfl (by kernel_rfl) (by kernel_rfl) (by kernel_rfl) (by rfl) hS (fun _ _ _ h => h) ?_ ?_; rotate_left; focus (intro w; go_simp; try with_reducible rfl))
      try simp only [Act.put, List.setIfInBounds_toArray, List.set_cons_zero, List.set_cons_succ]
      refine wpH_load 8 (.string ⟨List.toArray (b)⟩) (oi := { dst := some 64, op := Op.load 9 (Operand.tmp 63), type := 9, pos := "theorems.go:78", after := #[{ on := 7, ground := Ground.data }], guard := none }) rfl (by kernel_rfl) (by kernel_rfl) (by kernel_rfl) (by rfl) hS (fun _ _ _ h => h) (fun w hb => (by have q := keepC hb c1; go_simp; try rfl)) ?_
      try simp only [Act.put, List.setIfInBounds_toArray, List.set_cons_zero, List.set_cons_succ]
      (refine wpH_pure 9 ?_ (oi := { dst := some 65, op := Op.indexAddr 45 (Operand.tmp 4) (Operand.const (Value.int IntKind.i64 2)), type := 0, pos := "theorems.go:78", after := #[], guard := none }) rfl (by kernel_rfl) (by kernel_rfl) (by kernel_rfl) (by rfl) hS (fun _ _ _ h => h) ?_ ?_; rotate_left; focus (intro w; go_simp; try with_reducible rfl))
      try simp only [Act.put, List.setIfInBounds_toArray, List.set_cons_zero, List.set_cons_succ]
      refine wpH_load 10 (.string ⟨List.toArray ([])⟩) (oi := { dst := some 66, op := Op.load 9 (Operand.tmp 65), type := 9, pos := "theorems.go:78", after := #[{ on := 9, ground := Ground.data }], guard := none }) rfl (by kernel_rfl) (by kernel_rfl) (by kernel_rfl) (by rfl) hS (fun _ _ _ h => h) (fun w hb => (by have q := keepC hb c2; go_simp; try rfl)) ?_
      try simp only [Act.put, List.setIfInBounds_toArray, List.set_cons_zero, List.set_cons_succ]
      (refine wpH_pure 13 ?_ (oi := { dst := some 69, op := Op.move (Operand.tmp 7), type := 30, pos := "theorems.go:78", after := #[], guard := none }) rfl (by kernel_rfl) (by kernel_rfl) (by kernel_rfl) (by rfl) hS (fun _ _ _ h => h) ?_ ?_; rotate_left; focus (intro w; go_simp; try with_reducible rfl))
      try simp only [Act.put, List.setIfInBounds_toArray, List.set_cons_zero, List.set_cons_succ]
      (refine wpH_pure 14 ?_ (oi := { dst := some 70, op := Op.indexAddr 45 (Operand.tmp 4) (Operand.const (Value.int IntKind.i64 0)), type := 0, pos := "theorems.go:78", after := #[], guard := none }) rfl (by kernel_rfl) (by kernel_rfl) (by kernel_rfl) (by rfl) hS (fun _ _ _ h => h) ?_ ?_; rotate_left; focus (intro w; go_simp; try with_reducible rfl))
      try simp only [Act.put, List.setIfInBounds_toArray, List.set_cons_zero, List.set_cons_succ]
      refine wpH_load 15 (.string ⟨List.toArray (a)⟩) (oi := { dst := some 71, op := Op.load 9 (Operand.tmp 70), type := 9, pos := "theorems.go:78", after := #[{ on := 14, ground := Ground.data }], guard := none }) rfl (by kernel_rfl) (by kernel_rfl) (by kernel_rfl) (by rfl) hS (fun _ _ _ h => h) (fun w hb => (by have q := keepC hb c0; go_simp; try rfl)) ?_
      try simp only [Act.put, List.setIfInBounds_toArray, List.set_cons_zero, List.set_cons_succ]
      (refine wpH_pure 16 ?_ (oi := { dst := some 72, op := Op.indexAddr 45 (Operand.tmp 4) (Operand.const (Value.int IntKind.i64 2)), type := 0, pos := "theorems.go:78", after := #[], guard := none }) rfl (by kernel_rfl) (by kernel_rfl) (by kernel_rfl) (by rfl) hS (fun _ _ _ h => h) ?_ ?_; rotate_left; focus (intro w; go_simp; try with_reducible rfl))
      try simp only [Act.put, List.setIfInBounds_toArray, List.set_cons_zero, List.set_cons_succ]
      refine wpH_load 17 (.string ⟨List.toArray ([])⟩) (oi := { dst := some 73, op := Op.load 9 (Operand.tmp 72), type := 9, pos := "theorems.go:78", after := #[{ on := 16, ground := Ground.data }], guard := none }) rfl (by kernel_rfl) (by kernel_rfl) (by kernel_rfl) (by rfl) hS (fun _ _ _ h => h) (fun w hb => (by have q := keepC hb c2; go_simp; try rfl)) ?_
      try simp only [Act.put, List.setIfInBounds_toArray, List.set_cons_zero, List.set_cons_succ]
      refine wpH_call 5 (oi := { dst := some 61, op := Op.call { callee := Callee.value (Operand.func 16), args := #[Operand.tmp 56, Operand.tmp 58, Operand.tmp 60], argTypes := #[30, 9, 9] }, type := 3, pos := "theorems.go:78", after := #[{ on := 0, ground := Ground.data }, { on := 2, ground := Ground.data }, { on := 4, ground := Ground.data }], guard := none }) rfl (by kernel_rfl) (by rfl) (HCab.out _ (HT2.out.keep hS)) ?_ ?_
      · (go_simp; try rfl)
      rintro e w' ⟨rfl, hbx⟩
      refine ⟨_, rfl, hS.trans (hbx.mono hS.size), ?_⟩
      replace hS := hS.trans (hbx.mono hS.size)
      try simp only [Act.put, List.setIfInBounds_toArray, List.set_cons_zero, List.set_cons_succ]
      refine wpH_call 11 (oi := { dst := some 67, op := Op.call { callee := Callee.value (Operand.func 16), args := #[Operand.tmp 62, Operand.tmp 64, Operand.tmp 66], argTypes := #[30, 9, 9] }, type := 3, pos := "theorems.go:78", after := #[{ on := 6, ground := Ground.data }, { on := 8, ground := Ground.data }, { on := 10, ground := Ground.data }, { on := 5, ground := Ground.chain }], guard := none }) rfl (by kernel_rfl) (by rfl) (HCbc.out _ (HT2.out.keep hS)) ?_ ?_
      · (go_simp; try rfl)
      rintro e w' ⟨rfl, hbx⟩
      refine ⟨_, rfl, hS.trans (hbx.mono hS.size), ?_⟩
      replace hS := hS.trans (hbx.mono hS.size)
      try simp only [Act.put, List.setIfInBounds_toArray, List.set_cons_zero, List.set_cons_succ]
      (refine wpH_pure 12 ?_ (oi := { dst := some 68, op := Op.binOp BinOp.add 3 (Operand.tmp 61) (Operand.tmp 67) 3, type := 3, pos := "theorems.go:78", after := #[{ on := 5, ground := Ground.data }, { on := 11, ground := Ground.data }], guard := none }) rfl (by kernel_rfl) (by kernel_rfl) (by kernel_rfl) (by rfl) hS (fun _ _ _ h => h) ?_ ?_; rotate_left; focus (intro w; go_simp; try with_reducible rfl))
      try simp only [Act.put, List.setIfInBounds_toArray, List.set_cons_zero, List.set_cons_succ]
      refine wpH_call 18 (oi := { dst := some 74, op := Op.call { callee := Callee.value (Operand.func 16), args := #[Operand.tmp 69, Operand.tmp 71, Operand.tmp 73], argTypes := #[30, 9, 9] }, type := 3, pos := "theorems.go:78", after := #[{ on := 13, ground := Ground.data }, { on := 15, ground := Ground.data }, { on := 17, ground := Ground.data }, { on := 11, ground := Ground.chain }], guard := none }) rfl (by kernel_rfl) (by rfl) (HCac.out _ (HT2.out.keep hS)) ?_ ?_
      · (go_simp; try rfl)
      rintro e w' ⟨rfl, hbx⟩
      refine ⟨_, rfl, hS.trans (hbx.mono hS.size), ?_⟩
      replace hS := hS.trans (hbx.mono hS.size)
      try simp only [Act.put, List.setIfInBounds_toArray, List.set_cons_zero, List.set_cons_succ]
      (refine wpH_pure 19 ?_ (oi := { dst := some 75, op := Op.binOp BinOp.neq 3 (Operand.tmp 68) (Operand.tmp 74) 3, type := 4, pos := "theorems.go:78", after := #[{ on := 12, ground := Ground.data }, { on := 18, ground := Ground.data }], guard := none }) rfl (by kernel_rfl) (by kernel_rfl) (by kernel_rfl) (by rfl) hS (fun _ _ _ h => h) ?_ ?_; rotate_left; focus (intro w; go_simp; try with_reducible rfl))
      try simp only [Act.put, List.setIfInBounds_toArray, List.set_cons_zero, List.set_cons_succ]
      refine wpAnyH_done (by kernel_rfl) ?_ _
      have hw5 := hw2.trans (hS.mono hw2.size)
      have HT5 := Lib.hid (HT2.out.keep hS)
      have q0 := keepC hS c0
      have q1 := keepC hS c1
      have q2 := keepC hS c2
      clear hS c0 c1 c2
      go_wp2_with fail
      refine (HRac.out _ HT5.out).mono ?_
      rintro e w6 ⟨v6, rfl, hr6, hb6⟩
      have hw6 := hw5.trans (hb6.mono hw5.size)
      have p0 := keepC hb6 q0
      have p1 := keepC hb6 q1
      have HT6 := Lib.hid (HT5.out.keep hb6)
      have HR6 := Lib.hid hr6
      obtain ⟨va6, vc6, rfl⟩ := hr6.form
      clear hr6 q0 q1 q2 hb6
      go_wp2_with fail
      refine (HRab.out _ HT6.out).mono ?_
      rintro e w7 ⟨v7, rfl, hr7, hb7⟩
      have hw7 := hw6.trans (hb7.mono hw6.size)
      obtain ⟨va7, vc7, rfl⟩ := hr7.form
      have hg7 := (HR6.out.keep hb7).il
      have hup := hg7.upto F.length HF1.out
      rw [HF2.out] at hup
      have hst := sameitems_any _ _ F F _ hr7.il hup
      rw [show decide (F = F) = true from by simp] at hst
      have HST := Lib.hid hst
      obtain ⟨a6, cap6, e6, cap1, cap2, hx6⟩ := hg7
      injection e6 with e7 _ e6
      subst e7 e6
      clear hx6
      have g1 : decide ((F.length : Int) ≤ (G.length : Int)) = true := by have := HF1.out; simp; omega
      have g2 : (F.length : Int) ≤ (vc6 : Int) := by have := HF1.out; omega
      have g3 : F.length ≤ vc6 := by omega
      clear hst hup hr7 hb7 p0 p1
      go_wp2_with fail
      refine HST.out.mono ?_
      rintro e w8 ⟨rfl, n8, rfl⟩
      go_wp2_with fail
      go_ret
      exact ⟨rfl, below_drewN hw7 _⟩
    · have d6 : c.isEmpty = false := by simpa using hce
      have d7 : decide (c < b) = false := by
        rcases H3.out with h | h
        · exact absurd h hce
        · simpa using h
      clear hce H3
      go_wp2_with fail
      refine (HBL.out _).mono ?_
      rintro e wz ⟨rfl, rfl⟩
      clear HBL
      go_wp2_with fail
      refine wpH_start (by kernel_rfl) (fun hS => ?_)
      (refine wpH_pure 0 ?_ (oi := { dst := some 56, op := Op.move (Operand.tmp 7), type := 30, pos := "theorems.go:78", after := #[], guard := none }) rfl (by kernel_rfl) (by kernel_rfl) (by kernel_rfl) (by rfl) hS (fun _ _ _ h => h) ?_ ?_; rotate_left; focus (intro w; go_simp; try with_reducible rfl))
      try simp only [Act.put, List.setIfInBounds_toArray, List.set_cons_zero, List.set_cons_succ]
      (refine wpH_pure 1 ?_ (oi := { dst := some 57, op := Op.indexAddr 45 (Operand.tmp 4) (Operand.const (Value.int IntKind.i64 0)), type := 0, pos := "theorems.go:78", after := #[], guard := none }) rfl (by kernel_rfl) (by kernel_rfl) (by kernel_rfl) (by rfl) hS (fun _ _ _ h => h) ?_ ?_; rotate_left; focus (intro w; go_simp; try with_reducible rfl))
      try simp only [Act.put, List.setIfInBounds_toArray, List.set_cons_zero, List.set_cons_succ]
      refine wpH_load 2 (.string ⟨List.toArray (a)⟩) (oi := { dst := some 58, op := Op.load 9 (Operand.tmp 57), type := 9, pos := "theorems.go:78", after := #[{ on := 1, ground := Ground.data }], guard := none }) rfl (by kernel_rfl) (by kernel_rfl) (by kernel_rfl) (by rfl) hS (fun _ _ _ h => h) (fun w hb => (by have q := keepC hb c0; go_simp; try rfl)) ?_
      try simp only [Act.put, List.setIfInBounds_toArray, List.set_cons_zero, List.set_cons_succ]
      (refine wpH_pure 3 ?_ (oi := { dst := some 59, op := Op.indexAddr 45 (Operand.tmp 4) (Operand.const (Value.int IntKind.i64 1)), type := 0, pos := "theorems.go:78", after := #[], guard := none }) rfl (by kernel_rfl) (by kernel_rfl) (by kernel_rfl) (by rfl) hS (fun _ _ _ h => h) ?_ ?_; rotate_left; focus (intro w; go_simp; try with_reducible rfl))
      try simp only [Act.put, List.setIfInBounds_toArray, List.set_cons_zero, List.set_cons_succ]
      refine wpH_load 4 (.string ⟨List.toArray (b)⟩) (oi := { dst := some 60, op := Op.load 9 (Operand.tmp 59), type := 9, pos := "theorems.go:78", after := #[{ on := 3, ground := Ground.data }], guard := none }) rfl (by kernel_rfl) (by kernel_rfl) (by kernel_rfl) (by rfl) hS (fun _ _ _ h => h) (fun w hb => (by have q := keepC hb c1; go_simp; try rfl)) ?_
      try simp only [Act.put, List.setIfInBounds_toArray, List.set_cons_zero, List.set_cons_succ]
      (refine wpH_pure 6 ?_ (oi := { dst := some 62, op := Op.move (Operand.tmp 7), type := 30, pos := "theorems.go:78", after := #[], guard := none }) rfl (by kernel_rfl) (by kernel_rfl) (by kernel_rfl) (by rfl) hS (fun _ _ _ h => h) ?_ ?_; rotate_left; focus (intro w; go_simp; try with_reducible rfl))
      try simp only [Act.put, List.setIfInBounds_toArray, List.set_cons_zero, List.set_cons_succ]
      (refine wpH_pure 7 ?_ (oi := { dst := some 63, op := Op.indexAddr 45 (Operand.tmp 4) (Operand.const (Value.int IntKind.i64 1)), type := 0, pos := "theorems.go:78", after := #[], guard := none }) rfl (by kernel_rfl) (by kernel_rfl) (by kernel_rfl) (by rfl) hS (fun _ _ _ h => h) ?_ ?_; rotate_left; focus (intro w; go_simp; try with_reducible rfl))
      try simp only [Act.put, List.setIfInBounds_toArray, List.set_cons_zero, List.set_cons_succ]
      refine wpH_load 8 (.string ⟨List.toArray (b)⟩) (oi := { dst := some 64, op := Op.load 9 (Operand.tmp 63), type := 9, pos := "theorems.go:78", after := #[{ on := 7, ground := Ground.data }], guard := none }) rfl (by kernel_rfl) (by kernel_rfl) (by kernel_rfl) (by rfl) hS (fun _ _ _ h => h) (fun w hb => (by have q := keepC hb c1; go_simp; try rfl)) ?_
      try simp only [Act.put, List.setIfInBounds_toArray, List.set_cons_zero, List.set_cons_succ]
      (refine wpH_pure 9 ?_ (oi := { dst := some 65, op := Op.indexAddr 45 (Operand.tmp 4) (Operand.const (Value.int IntKind.i64 2)), type := 0, pos := "theorems.go:78", after := #[], guard := none }) rfl (by kernel_rfl) (by kernel_rfl) (by kernel_rfl) (by rfl) hS (fun _ _ _ h => h) ?_ ?_; rotate_left; focus (intro w; go_simp; try with_reducible rfl))
      try simp only [Act.put, List.setIfInBounds_toArray, List.set_cons_zero, List.set_cons_succ]
      refine wpH_load 10 (.string ⟨List.toArray (c)⟩) (oi := { dst := some 66, op := Op.load 9 (Operand.tmp 65), type := 9, pos := "theorems.go:78", after := #[{ on := 9, ground := Ground.data }], guard := none }) rfl (by kernel_rfl) (by kernel_rfl) (by kernel_rfl) (by rfl) hS (fun _ _ _ h => h) (fun w hb => (by have q := keepC hb c2; go_simp; try rfl)) ?_
      try simp only [Act.put, List.setIfInBounds_toArray, List.set_cons_zero, List.set_cons_succ]
      (refine wpH_pure 13 ?_ (oi := { dst := some 69, op := Op.move (Operand.tmp 7), type := 30, pos := "theorems.go:78", after := #[], guard := none }) rfl (by kernel_rfl) (by kernel_rfl) (by kernel_rfl) (by rfl) hS (fun _ _ _ h => h) ?_ ?_; rotate_left; focus (intro w; go_simp; try with_reducible rfl))
      try simp only [Act.put, List.setIfInBounds_toArray, List.set_cons_zero, List.set_cons_succ]
      (refine wpH_pure 14 ?_ (oi := { dst := some 70, op := Op.indexAddr 45 (Operand.tmp 4) (Operand.const (Value.int IntKind.i64 0)), type := 0, pos := "theorems.go:78", after := #[], guard := none }) rfl (by kernel_rfl) (by kernel_rfl) (by kernel_rfl) (by rfl) hS (fun _ _ _ h => h) ?_ ?_; rotate_left; focus (intro w; go_simp; try with_reducible rfl))
      try simp only [Act.put, List.setIfInBounds_toArray, List.set_cons_zero, List.set_cons_succ]
      refine wpH_load 15 (.string ⟨List.toArray (a)⟩) (oi := { dst := some 71, op := Op.load 9 (Operand.tmp 70), type := 9, pos := "theorems.go:78", after := #[{ on := 14, ground := Ground.data }], guard := none }) rfl (by kernel_rfl) (by kernel_rfl) (by kernel_rfl) (by rfl) hS (fun _ _ _ h => h) (fun w hb => (by have q := keepC hb c0; go_simp; try rfl)) ?_
      try simp only [Act.put, List.setIfInBounds_toArray, List.set_cons_zero, List.set_cons_succ]
      (refine wpH_pure 16 ?_ (oi := { dst := some 72, op := Op.indexAddr 45 (Operand.tmp 4) (Operand.const (Value.int IntKind.i64 2)), type := 0, pos := "theorems.go:78", after := #[], guard := none }) rfl (by kernel_rfl) (by kernel_rfl) (by kernel_rfl) (by rfl) hS (fun _ _ _ h => h) ?_ ?_; rotate_left; focus (intro w; go_simp; try with_reducible rfl))
      try simp only [Act.put, List.setIfInBounds_toArray, List.set_cons_zero, List.set_cons_succ]
      refine wpH_load 17 (.string ⟨List.toArray (c)⟩) (oi := { dst := some 73, op := Op.load 9 (Operand.tmp 72), type := 9, pos := "theorems.go:78", after := #[{ on := 16, ground := Ground.data }], guard := none }) rfl (by kernel_rfl) (by kernel_rfl) (by kernel_rfl) (by rfl) hS (fun _ _ _ h => h) (fun w hb => (by have q := keepC hb c2; go_simp; try rfl)) ?_
      try simp only [Act.put, List.setIfInBounds_toArray, List.set_cons_zero, List.set_cons_succ]
      refine wpH_call 5 (oi := { dst := some 61, op := Op.call { callee := Callee.value (Operand.func 16), args := #[Operand.tmp 56, Operand.tmp 58, Operand.tmp 60], argTypes := #[30, 9, 9] }, type := 3, pos := "theorems.go:78", after := #[{ on := 0, ground := Ground.data }, { on := 2, ground := Ground.data }, { on := 4, ground := Ground.data }], guard := none }) rfl (by kernel_rfl) (by rfl) (HCab.out _ (HT2.out.keep hS)) ?_ ?_
      · (go_simp; try rfl)
      rintro e w' ⟨rfl, hbx⟩
      refine ⟨_, rfl, hS.trans (hbx.mono hS.size), ?_⟩
      replace hS := hS.trans (hbx.mono hS.size)
      try simp only [Act.put, List.setIfInBounds_toArray, List.set_cons_zero, List.set_cons_succ]
      refine wpH_call 11 (oi := { dst := some 67, op := Op.call { callee := Callee.value (Operand.func 16), args := #[Operand.tmp 62, Operand.tmp 64, Operand.tmp 66], argTypes := #[30, 9, 9] }, type := 3, pos := "theorems.go:78", after := #[{ on := 6, ground := Ground.data }, { on := 8, ground := Ground.data }, { on := 10, ground := Ground.data }, { on := 5, ground := Ground.chain }], guard := none }) rfl (by kernel_rfl) (by rfl) (HCbc.out _ (HT2.out.keep hS)) ?_ ?_
      · (go_simp; try rfl)
      rintro e w' ⟨rfl, hbx⟩
      refine ⟨_, rfl, hS.trans (hbx.mono hS.size), ?_⟩
      replace hS := hS.trans (hbx.mono hS.size)
      try simp only [Act.put, List.setIfInBounds_toArray, List.set_cons_zero, List.set_cons_succ]
      (refine wpH_pure 12 ?_ (oi := { dst := some 68, op := Op.binOp BinOp.add 3 (Operand.tmp 61) (Operand.tmp 67) 3, type := 3, pos := "theorems.go:78", after := #[{ on := 5, ground := Ground.data }, { on := 11, ground := Ground.data }], guard := none }) rfl (by kernel_rfl) (by kernel_rfl) (by kernel_rfl) (by rfl) hS (fun _ _ _ h => h) ?_ ?_; rotate_left; focus (intro w; go_simp; try with_reducible rfl))
      try simp only [Act.put, List.setIfInBounds_toArray, List.set_cons_zero, List.set_cons_succ]
      refine wpH_call 18 (oi := { dst := some 74, op := Op.call { callee := Callee.value (Operand.func 16), args := #[Operand.tmp 69, Operand.tmp 71, Operand.tmp 73], argTypes := #[30, 9, 9] }, type := 3, pos := "theorems.go:78", after := #[{ on := 13, ground := Ground.data }, { on := 15, ground := Ground.data }, { on := 17, ground := Ground.data }, { on := 11, ground := Ground.chain }], guard := none }) rfl (by kernel_rfl) (by rfl) (HCac.out _ (HT2.out.keep hS)) ?_ ?_
      · (go_simp; try rfl)
      rintro e w' ⟨rfl, hbx⟩
      refine ⟨_, rfl, hS.trans (hbx.mono hS.size), ?_⟩
      replace hS := hS.trans (hbx.mono hS.size)
      try simp only [Act.put, List.setIfInBounds_toArray, List.set_cons_zero, List.set_cons_succ]
      (refine wpH_pure 19 ?_ (oi := { dst := some 75, op := Op.binOp BinOp.neq 3 (Operand.tmp 68) (Operand.tmp 74) 3, type := 4, pos := "theorems.go:78", after := #[{ on := 12, ground := Ground.data }, { on := 18, ground := Ground.data }], guard := none }) rfl (by kernel_rfl) (by kernel_rfl) (by kernel_rfl) (by rfl) hS (fun _ _ _ h => h) ?_ ?_; rotate_left; focus (intro w; go_simp; try with_reducible rfl))
      try simp only [Act.put, List.setIfInBounds_toArray, List.set_cons_zero, List.set_cons_succ]
      refine wpAnyH_done (by kernel_rfl) ?_ _
      have hw5 := hw2.trans (hS.mono hw2.size)
      have HT5 := Lib.hid (HT2.out.keep hS)
      have q0 := keepC hS c0
      have q1 := keepC hS c1
      have q2 := keepC hS c2
      clear hS c0 c1 c2
      go_wp2_with fail
      refine (HRac.out _ HT5.out).mono ?_
      rintro e w6 ⟨v6, rfl, hr6, hb6⟩
      have hw6 := hw5.trans (hb6.mono hw5.size)
      have p0 := keepC hb6 q0
      have p1 := keepC hb6 q1
      have HT6 := Lib.hid (HT5.out.keep hb6)
      have HR6 := Lib.hid hr6
      obtain ⟨va6, vc6, rfl⟩ := hr6.form
      clear hr6 q0 q1 q2 hb6
      go_wp2_with fail
      refine (HRab.out _ HT6.out).mono ?_
      rintro e w7 ⟨v7, rfl, hr7, hb7⟩
      have hw7 := hw6.trans (hb7.mono hw6.size)
      obtain ⟨va7, vc7, rfl⟩ := hr7.form
      have hg7 := (HR6.out.keep hb7).il
      have hup := hg7.upto F.length HF1.out
      rw [HF2.out] at hup
      have hst := sameitems_any _ _ F F _ hr7.il hup
      rw [show decide (F = F) = true from by simp] at hst
      have HST := Lib.hid hst
      obtain ⟨a6, cap6, e6, cap1, cap2, hx6⟩ := hg7
      injection e6 with e7 _ e6
      subst e7 e6
      clear hx6
      have g1 : decide ((F.length : Int) ≤ (G.length : Int)) = true := by have := HF1.out; simp; omega
      have g2 : (F.length : Int) ≤ (vc6 : Int) := by have := HF1.out; omega
      have g3 : F.length ≤ vc6 := by omega
      clear hst hup hr7 hb7 p0 p1
      go_wp2_with fail
      refine HST.out.mono ?_
      rintro e w8 ⟨rfl, n8, rfl⟩
      go_wp2_with fail
      go_ret
      exact ⟨rfl, below_drewN hw7 _⟩
  · obtain ⟨hc0, rfl⟩ := h
    have d0 : ((ofI [] l).2 == 0) = false := by simpa using hc0
    have d0' : ((ofI [] l).2 != 0) = true := by simpa using hc0
    have hw2 := hw1.trans (hb2.mono hw1.size)
    clear hc0
    generalize (ofI [] l).2 = cd at *
    go_wp2_with fail
    go_ret
    exact ⟨rfl, hw2⟩
end Go.Proofs.YtdaihimdkgmboaaDoor

/- An argument of the type []api.Item is a list of items of ours. -/
set_option linter.unusedVariables false
namespace Go.Proofs.YtdaihimdkgmboaaDoor
open Go.ChangeShapes Go.WideShapes Go.ChangeAt Go.RowKit Pl

theorem cell_lt {W : World} {g o : Nat} {x : Value} (h : W.cell? ⟨g, o, none⟩ = some x) : g < W.heap.size := by
  rcases Nat.lt_or_ge g W.heap.size with hlt | hge
  · exact hlt
  · unfold World.cell? at h
    rw [Array.getElem?_eq_none hge] at h
    simp at h
theorem item_val {W : World} {v : Value} (h : Sh.Val W (.slice 2 (.pair .str (.pair .str .unit))) v) : ∃ l : List It, IL W v l ∧ ∀ x ∈ l, x.1.length ≤ 9223372036854775807 ∧ x.2.length ≤ 9223372036854775807 := by
  rcases (show _ ∨ _ from h) with h | ⟨a, len, cap, hv, hlc, hcm, hel⟩
  · obtain rfl : v = .slice none 0 0 := by simpa using h
    exact ⟨[], ⟨none, 0, rfl, Nat.le_refl _, by unfold maxLen; omega, fun h => absurd rfl h⟩, by simp⟩
  · obtain rfl : v = .slice (some a) len cap := by simpa using hv
    rcases Nat.eq_zero_or_pos len with h0 | hpos
    · subst h0
      exact ⟨[], ⟨some a, cap, rfl, hlc, hcm, fun h => absurd rfl h⟩, by simp⟩
    · obtain ⟨hs, hc⟩ := slice_cells (by decide) hpos hel
      have hf : ∀ i, ∃ x : It, i < len → (W.cell? ⟨a.block, a.off + i * 2, none⟩ = some (.string ⟨List.toArray (x.1)⟩) ∧ W.cell? ⟨a.block, a.off + i * 2 + 1, none⟩ = some (.string ⟨List.toArray (x.2)⟩)) ∧ x.1.length ≤ 9223372036854775807 ∧ x.2.length ≤ 9223372036854775807 := by
        intro i
        by_cases hi : i < len
        · obtain ⟨cs, ⟨x, y, rfl, ⟨s, rfl, hs1⟩, z, u, rfl, ⟨n, rfl, hs2⟩, hu⟩, _, hj⟩ := hc i hi
          have h0 := hj 0 (by decide)
          have h1 := hj 1 (by decide)
          have l1 : s.data.toList.length ≤ 9223372036854775807 := by rw [Array.length_toList]; have h : s.data.size ≤ maxLen := hs1; unfold maxLen at h; omega
          have l2 : n.data.toList.length ≤ 9223372036854775807 := by rw [Array.length_toList]; have h : n.data.size ≤ maxLen := hs2; unfold maxLen at h; omega
          refine ⟨(s.data.toList, n.data.toList), fun _ => ⟨⟨?_, ?_⟩, l1, l2⟩⟩
          · rw [← str_list s]
            simpa using h0
          · rw [← str_list n]
            simpa using h1
        · exact ⟨([], []), fun h => absurd h hi⟩
      obtain ⟨f, hf⟩ := Classical.axiomOfChoice hf
      obtain ⟨b, off, sp⟩ := a
      simp only at hs
      subst hs
      refine ⟨(List.range len).map f, ⟨some ⟨b, off, none⟩, cap, by simp, by simpa using hlc, hcm, fun _ => ⟨b, off, rfl, cell_lt (hf 0 hpos).1.1, fun i hi => ?_⟩⟩, ?_⟩
      rotate_left
      · intro x hx
        rw [List.mem_map] at hx
        obtain ⟨i, hi, rfl⟩ := hx
        exact (hf i (List.mem_range.1 hi)).2
      have hi' : i < len := by simpa using hi
      have hg : ((List.range len).map f).getD i ([], []) = f i := by simp [List.getD, hi']
      rw [hg]
      exact (hf i hi').1
end Go.Proofs.YtdaihimdkgmboaaDoor

/- Arguments that are texts, side by side; a number. -/
set_option linter.unusedVariables false
namespace Go.Proofs.YtdaihimdkgmboaaDoor
open Go.ChangeShapes Go.WideShapes Go.ChangeAt Go.RowKit Pl

theorem ends2_val {W : World} {v : Value} (h : Sh.Val W (.pair .str (.pair .str .unit)) v) : ∃ a b : Bs, v = .agg #[.string ⟨List.toArray (a)⟩, .string ⟨List.toArray (b)⟩] ∧ a.length ≤ maxLen ∧ b.length ≤ maxLen := by
  obtain ⟨c0, rfl, _, _, rfl, ⟨s, rfl, h1⟩, _, u, rfl, ⟨t, rfl, h2⟩, hu⟩ := h
  obtain rfl : u = [] := hu
  refine ⟨s.data.toList, t.data.toList, ?_, by rw [Array.length_toList]; exact h1, by rw [Array.length_toList]; exact h2⟩
  rw [← str_list s, ← str_list t]
  simp
theorem ends3_val {W : World} {v : Value} (h : Sh.Val W (.pair .str (.pair .str (.pair .str .unit))) v) : ∃ a b c : Bs, v = .agg #[.string ⟨List.toArray (a)⟩, .string ⟨List.toArray (b)⟩, .string ⟨List.toArray (c)⟩] := by
  obtain ⟨c0, rfl, _, _, rfl, ⟨s, rfl, _⟩, _, _, rfl, ⟨t, rfl, _⟩, _, u, rfl, ⟨r, rfl, _⟩, hu⟩ := h
  obtain rfl : u = [] := hu
  refine ⟨s.data.toList, t.data.toList, r.data.toList, ?_⟩
  rw [← str_list s, ← str_list t, ← str_list r]
  simp
theorem int_val' {W : World} {v : Value} (h : Sh.Val W (.int .i64) v) : ∃ x : Int, v = .int .i64 (x) ∧ -9223372036854775808 ≤ x ∧ x ≤ 9223372036854775807 := by
  obtain ⟨n, hn, hw⟩ := h
  obtain rfl : v = .int .i64 n := by simpa using hn
  exact ⟨n, rfl, (wf64 hw).1, (wf64 hw).2⟩
end Go.Proofs.YtdaihimdkgmboaaDoor
