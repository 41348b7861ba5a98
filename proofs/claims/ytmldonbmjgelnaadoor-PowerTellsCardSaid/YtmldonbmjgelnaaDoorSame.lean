/- Lists of members held against one another; spoilt. -/
import Derived.Test.YtmldonbmjgelnaaDoorMRow
import Derived.Test.YtmldonbmjgelnaaDoorEq
set_option linter.unusedSimpArgs false
set_option linter.unusedVariables false
namespace Go.Proofs.YtmldonbmjgelnaaDoor
open Go.RowKit Pl

theorem member_fields : ((Tryd.prog).fieldsOf 63).toList.map (fun f => (f.type, f.offset, f.name == "_")) = [(9, 0, false), (3, 1, false)] := by kernel_rfl
set_option maxHeartbeats 1000000 in
@[go_sem high] theorem eq_member (n : Bs) (k : Int) (n2 : Bs) (k2 : Int) (d : Nat) (w : World) :
    (Op.equalIn (d + 2) 63 (.agg #[.string ⟨List.toArray (n)⟩, .int .i64 (k)]) (.agg #[.string ⟨List.toArray (n2)⟩, .int .i64 (k2)])).run Tryd.prog w = .ok (decide (n = n2) && decide (k = k2)) w := by
  rw [run_equalIn_struct w (d + 1) 63 _ _ (by kernel_rfl) (by kernel_rfl)]
  have hf := member_fields
  generalize ((Tryd.prog).fieldsOf 63).toList = l at *
  rcases l with _ | ⟨f0, _ | ⟨f1, _ | ⟨f2, l⟩⟩⟩ <;> simp at hf
  obtain ⟨⟨a1, a2, a3⟩, ⟨b1, b2, b3⟩⟩ := hf
  have q0 : ∀ (n : Bs) (k : Int), (part 9 #[.string ⟨List.toArray (n)⟩, .int .i64 (k)] 0).run Tryd.prog w = .ok (.string ⟨List.toArray (n)⟩) w := fun n k => run_part_plain w (by simp [Program.plainKey, Tryd.underlying9]) rfl
  have q1 : ∀ (n : Bs) (k : Int), (part 3 #[.string ⟨List.toArray (n)⟩, .int .i64 (k)] 1).run Tryd.prog w = .ok (.int .i64 (k)) w := fun n k => run_part_plain w (by simp [Program.plainKey, Tryd.underlying3]) rfl
  have e0 := run_equalIn_string (P := Tryd.prog) w d 9 ⟨List.toArray n⟩ ⟨List.toArray n2⟩ Tryd.underlying9
  have e1 := run_equalIn_int (P := Tryd.prog) w d 3 .i64 .i64 k k2 Tryd.underlying3
  rw [← beq_toListBytes, str_beq] at e0
  simp only [Op.eqFields, a1, a2, b1, b2, a3, b3, ne_eq, not_false_eq_true, if_true, Sem.run_bind, q0, q1, e0, e1, Result.andThen_ok]
  by_cases h0 : n = n2
  · subst h0
    by_cases h1 : k = k2
    · subst h1; simp [Sem.run_bind, Sem.run_ite, q0, q1, e0, e1]
    · simp [Sem.run_bind, Sem.run_ite, q0, q1, e0, e1, h1]
  · simp [Sem.run_bind, Sem.run_ite, q0, q1, e0, e1, h0]

theorem MS.drewN {w : World} {v : Value} {l : List (Bs × Int)} (h : MS w v l) (n : Nat) : MS (w.drewN n) v l := h.keep (below_drewN (Below.refl _ _) n)

set_option maxRecDepth 100000 in
set_option maxHeartbeats 1000000 in
theorem samemembers_any (u v : Value) (l m : List (Bs × Int)) (w : World) (hu : MS w u l) (hv : MS w v m) :
    Calls Tryd.prog 32 #[u, v] w fun e w' => e = .returned (.bool (decide (l = m))) ∧ ∃ n, w' = w.drewN n := by
  obtain ⟨a, c, rfl⟩ := hu.form
  obtain ⟨b, d, rfl⟩ := hv.form
  have hls := hu.small
  generalize hr : decide (l = m) = r
  have HR := Lib.hid hr
  clear hr
  by_cases hl : l.length = m.length
  · have hl1 : ((l.length : Int) == (m.length : Int)) = true := by simp; omega
    have HL := Lib.hid hl
    clear hl
    go_enter Tryd.func32, Tryd.ntmps32
    go_wp2_with fail
    go_loopw [5, 6] (fun s5 s6 wr => ∃ (i : Nat) (q : Bool), i ≤ l.length ∧ s6 = .int .i64 i ∧ s5 = .bool q ∧ Hid ((q = true → l.take i = m.take i) ∧ (q = false → l ≠ m)) ∧ ∃ n, wr = w.drewN n) (fun _ s6 _ => l.length - (intOf s6).toNat)
    case atStart => exact ⟨0, true, by omega, rfl, rfl, Lib.hid ⟨fun _ => rfl, fun h => by cases h⟩, 0, rfl⟩
    case round =>
      obtain ⟨i, q, hi, rfl, rfl, HQ, nq, rfl⟩ := hrel
      cases q
      · have HZ : Hid (r = false) := Lib.hid (by rw [← HR.out]; simp [HQ.out.2 rfl])
        clear HQ
        go_wp2_with fail
        go_ret
        exact ⟨by rw [HZ.out]; rfl, nq, rfl⟩
      · by_cases hlt : i < l.length
        · have hlt' : (i : Int) < (l.length : Int) := by omega
          have hlm : i < m.length := by rw [← HL.out]; exact hlt
          have hlm' : (i : Int) < (m.length : Int) := by omega
          obtain ⟨g, off, rfl, _, c1, c1'⟩ := hu.at i hlt
          obtain ⟨g2, off2, rfl, _, c2, c2'⟩ := hv.at i hlm
          have HS : Hid (l.take (i + 1) = m.take (i + 1) ↔ l.getD i ([], 0) = m.getD i ([], 0)) := Lib.hid (by
            rw [List.take_succ_eq_append_getElem hlt, List.take_succ_eq_append_getElem hlm, HQ.out.1 rfl, List.append_cancel_left_eq]
            simp [List.getD, List.getElem?_eq_getElem hlt, List.getElem?_eq_getElem hlm])
          have HD : Hid (l.getD i ([], 0) ≠ m.getD i ([], 0) → l ≠ m) := Lib.hid (fun h e => h (by rw [e]))
          generalize l.getD i ([], 0) = x at *
          generalize m.getD i ([], 0) = y at *
          obtain ⟨n1, p1⟩ := x
          obtain ⟨n2, p2⟩ := y
          simp only at c1 c1' c2 c2'
          have HU := Lib.hid hu
          have HV := Lib.hid hv
          clear hu hv
          go_wp2_with fail
          go_quiet (fail)
          go_wp2_with fail
          exact ⟨⟨i + 1, decide (n1 = n2) && decide (p1 = p2), by omega, by go_num, rfl, Lib.hid ⟨fun h => HS.out.2 (by simpa using h), fun h => HD.out (by simpa using h)⟩, _, rfl⟩, by simp [intOf]; omega⟩
        · have hie : i = l.length := by omega
          have hd : decide ((i : Int) < (l.length : Int)) = false := by simp; omega
          have HZ : Hid (r = true) := Lib.hid (by
            rw [← HR.out]
            have h := HQ.out.1 rfl
            rw [hie, List.take_length, HL.out, List.take_length] at h
            simp [h])
          clear HQ
          go_wp2_with fail
          go_ret
          exact ⟨by rw [HZ.out]; rfl, nq, rfl⟩
  · have hl1 : ((l.length : Int) == (m.length : Int)) = false := by rw [beq_eq_false_iff_ne]; omega
    have HZ : Hid (r = false) := Lib.hid (by rw [← HR.out]; simp; intro e; exact hl (by rw [e]))
    clear hl
    go_enter Tryd.func32, Tryd.ntmps32
    go_wp2_with fail
    go_loopw [5, 6] (fun s5 s6 wr => s5 = .bool false ∧ s6 = .int .i64 0 ∧ wr = w) (fun _ s6 _ => 0)
    case atStart => exact ⟨rfl, rfl, rfl⟩
    case round =>
      obtain ⟨rfl, rfl, rfl⟩ := hrel
      go_wp2_with fail
      go_ret
      exact ⟨by rw [HZ.out]; rfl, 0, rfl⟩

theorem any_set {w : World} {g n : Nat} (h : ∀ j, j < n → ∃ x : Value, w.cell? ⟨g, j, none⟩ = some x) (i : Nat) (hi : i < n) (v : Value) : ∀ j, j < n → ∃ x : Value, (w.setCell ⟨g, i, none⟩ v).cell? ⟨g, j, none⟩ = some x := by
  intro j hj
  by_cases e : j = i
  · subst e
    obtain ⟨x, hx⟩ := h j hj
    exact ⟨_, World.cell?_setCell_same _ _ _ hx⟩
  · obtain ⟨y, hy⟩ := h j hj
    exact ⟨y, by rw [World.cell?_setCell_other _ _ _ _ (fun h => e (by injection h with _ h2 _; exact h2.symm))]; exact hy⟩
theorem MSrc.any {w : World} {g : Nat} {l : List (Bs × Int)} (h : MSrc w g 0 l) : ∀ j, j < l.length * 2 → ∃ x : Value, w.cell? ⟨g, j, none⟩ = some x := by
  intro j hj
  obtain ⟨i, hi | hi⟩ : ∃ i, j = i * 2 ∨ j = i * 2 + 1 := ⟨j / 2, by omega⟩
  · subst hi
    have := (h i (by omega)).1
    rw [Nat.zero_add] at this
    exact ⟨_, this⟩
  · subst hi
    have := (h i (by omega)).2
    rw [Nat.zero_add] at this
    exact ⟨_, this⟩

set_option maxRecDepth 100000 in
set_option maxHeartbeats 1000000 in
theorem spoilm_any (base : Nat) (v : Value) (l : List (Bs × Int)) (w : World) (hv : MRow w base v l) :
    Calls Tryd.prog 33 #[v] w fun e w' => e = .returned (.tuple #[]) ∧ Mod v.ownBlock.toList w w' := by
  rcases hv.cells with ⟨rfl, rfl⟩ | ⟨g, cap, rfl, h1, h2, h3, h4, h5, h6⟩
  · go_enter Tryd.func33, Tryd.ntmps33
    go_wp2_with fail
    go_loopw [2] (fun s2 wr => s2 = .int .i64 0 ∧ wr = w) (fun s2 _ => 0)
    case atStart => exact ⟨rfl, rfl⟩
    case round =>
      obtain ⟨rfl, rfl⟩ := hrel
      go_wp2_with fail
      refine bodyPost_end (results_none rfl _ _ _) rfl ?_
      exact ⟨rfl, Mod.refl _ _⟩
  · unfold maxLen at h4
    have H5 := Lib.hid h5.any
    have H6 := Lib.hid h6
    clear h5 h6 hv
    go_enter Tryd.func33, Tryd.ntmps33
    go_wp2_with fail
    go_loopw [2] (fun s2 wr => ∃ i : Nat, i ≤ l.length ∧ s2 = .int .i64 i ∧ Hid (∀ j, j < l.length * 2 → ∃ x : Value, wr.cell? ⟨g, j, none⟩ = some x) ∧ Hid (∀ o, wr.frozen? ⟨g, o, none⟩ = false) ∧ Mod [g] w wr) (fun s2 _ => l.length - (intOf s2).toNat)
    case atStart => exact ⟨0, by omega, rfl, H5, H6, Mod.refl _ _⟩
    case round =>
      obtain ⟨i, hi, rfl, HC, HF, hm⟩ := hrel
      by_cases hlt : i < l.length
      · have hlt' : (i : Int) < (l.length : Int) := by omega
        obtain ⟨x, hx⟩ := HC.out (i * 2) (by omega)
        obtain ⟨y, hy⟩ := HC.out (i * 2 + 1) (by omega)
        have hf := HF.out (i * 2)
        have hf2 := HF.out (i * 2 + 1)
        go_wp2_with fail
        refine ⟨⟨i + 1, by omega, by go_num, Lib.hid (any_set (any_set HC.out _ (by omega) _) _ (by omega) _), Lib.hid (fun o => by rw [World.frozen?_setCell, World.frozen?_setCell]; exact HF.out o), (hm.setCell (.inl (by simp)) _).setCell (.inl (by simp)) _⟩, by simp [intOf]; omega⟩
      · have hlt' : ¬ (i : Int) < (l.length : Int) := by omega
        go_wp2_with fail
        refine bodyPost_end (results_none rfl _ _ _) rfl ?_
        exact ⟨rfl, hm⟩

end Go.Proofs.YtmldonbmjgelnaaDoor
