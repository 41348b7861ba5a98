/- '==' on nodes. -/
import Derived.Test.YtmldonbmjgelnaaDoorEq
set_option linter.unusedSimpArgs false
set_option linter.unusedVariables false
namespace Go.Proofs.YtmldonbmjgelnaaDoor
open Go.RowKit Pl

def eqNd (k : Int) (p v : Bs) (kid : Nat → Bs) (k2 : Int) (p2 v2 : Bs) (kid2 : Nat → Bs) : Bool := decide (k = k2) && decide (p = p2) && decide (v = v2) && sameL (kidL kid) (kidL kid2)

theorem node_fields : ((Tryd.prog).fieldsOf 24).toList.map (fun f => (f.type, f.offset, f.name == "_")) = [(3, 0, false), (9, 1, false), (9, 2, false), (22, 3, false)] := by kernel_rfl

theorem kids_ext (kind : Int) (path val : Bs) (kid : Nat → Bs) : (nd kind path val kid).toArray.extract 3 (3 + 16) = (ka kid).toArray := by
  apply Array.ext'
  simp [nd, ka_len, List.extract_eq_take_drop]
  rw [List.take_of_length_le (by simp [ka_len])]
theorem part_kids (kind : Int) (path val : Bs) (kid : Nat → Bs) (w : World) : (part 22 (nd kind path val kid).toArray 3).run Tryd.prog w = .ok (.agg (ka kid).toArray) w := by
  have hagg : (isAgg 22).run Tryd.prog w = .ok true w := by
    unfold isAgg
    rw [Sem.run_bind, run_underlying Tryd.underlying22 w]
    rfl
  have hsz : (sizeOf 22).run Tryd.prog w = .ok 16 w := by
    have h := ka_info
    cases hq : (Tryd.prog).info? 22 with
    | none => simp [hq] at h
    | some i =>
      have hs : i.size = 16 := by simpa [hq] using h
      simp [sizeOf, typeInfo, hq, hs]
  unfold part
  rw [Sem.run_bind, hagg, Result.andThen_ok, if_pos rfl, Sem.run_bind, hsz, Result.andThen_ok, kids_ext]
  rfl

set_option maxHeartbeats 1000000 in
@[go_sem high] theorem eq_node (k : Int) (p v : Bs) (kid : Nat → Bs) (k2 : Int) (p2 v2 : Bs) (kid2 : Nat → Bs) (d : Nat) (w : World) :
    (Op.equalIn (d + 3) 24 (.agg (nd k p v kid).toArray) (.agg (nd k2 p2 v2 kid2).toArray)).run Tryd.prog w = .ok (eqNd k p v kid k2 p2 v2 kid2) w := by
  rw [run_equalIn_struct w (d + 2) 24 _ _ (by kernel_rfl) (by kernel_rfl)]
  have hf := node_fields
  generalize ((Tryd.prog).fieldsOf 24).toList = l at *
  rcases l with _ | ⟨f0, _ | ⟨f1, _ | ⟨f2, _ | ⟨f3, _ | ⟨f4, l⟩⟩⟩⟩⟩ <;> simp at hf
  obtain ⟨⟨a1, a2, a3⟩, ⟨b1, b2, b3⟩, ⟨c1, c2, c3⟩, ⟨d1, d2, d3⟩⟩ := hf
  have q0 : ∀ k p v kid, (part 3 (nd k p v kid).toArray 0).run Tryd.prog w = .ok (.int .i64 (k)) w := fun k p v kid => run_part_plain w (by simp [Program.plainKey, Tryd.underlying3]) (nd0 k p v kid)
  have q1 : ∀ k p v kid, (part 9 (nd k p v kid).toArray 1).run Tryd.prog w = .ok (.string ⟨List.toArray (p)⟩) w := fun k p v kid => run_part_plain w (by simp [Program.plainKey, Tryd.underlying9]) (nd1 k p v kid)
  have q2 : ∀ k p v kid, (part 9 (nd k p v kid).toArray 2).run Tryd.prog w = .ok (.string ⟨List.toArray (v)⟩) w := fun k p v kid => run_part_plain w (by simp [Program.plainKey, Tryd.underlying9]) (nd2 k p v kid)
  have e0 := run_equalIn_int (P := Tryd.prog) w (d + 1) 3 .i64 .i64 k k2 Tryd.underlying3
  have e1 := run_equalIn_string (P := Tryd.prog) w (d + 1) 9 ⟨List.toArray p⟩ ⟨List.toArray p2⟩ Tryd.underlying9
  have e2 := run_equalIn_string (P := Tryd.prog) w (d + 1) 9 ⟨List.toArray v⟩ ⟨List.toArray v2⟩ Tryd.underlying9
  have e3 := eq_kids kid kid2 d w
  rw [← beq_toListBytes, str_beq] at e1 e2
  simp only [Op.eqFields, a1, a2, b1, b2, c1, c2, d1, d2, a3, b3, c3, d3, ne_eq, not_false_eq_true, if_true, Sem.run_bind, q0, q1, q2, part_kids, e0, e1, e2, e3, Result.andThen_ok]
  unfold eqNd
  by_cases h0 : k = k2
  · subst h0
    by_cases h1 : p = p2
    · subst h1
      by_cases h2 : v = v2
      · subst h2
        cases h3 : sameL (kidL kid) (kidL kid2) <;> simp [Sem.run_bind, Sem.run_ite, q0, q1, q2, part_kids, e0, e1, e2, e3, h3]
      · simp [Sem.run_bind, Sem.run_ite, q0, q1, q2, part_kids, e0, e1, e2, e3, h2]
    · simp [Sem.run_bind, Sem.run_ite, q0, q1, q2, part_kids, e0, e1, e2, e3, h1]
  · simp [Sem.run_bind, Sem.run_ite, q0, q1, q2, part_kids, e0, e1, e2, e3, h0]

end Go.Proofs.YtmldonbmjgelnaaDoor
