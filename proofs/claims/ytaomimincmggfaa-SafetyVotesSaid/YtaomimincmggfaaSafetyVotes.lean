/- Walks of the laws. -/
import Derived.Test.YtaomimincmggfaaSafetyWorks
set_option linter.unusedSimpArgs false
set_option linter.unusedVariables false
namespace Go.Proofs.Ytaomimincmggfaa
open Go.RowKit

set_option maxRecDepth 100000 in
set_option maxHeartbeats 1600000 in
theorem votes_any (v l a b c x y z : Int) (ha : -9223372036854775808 ≤ x ∧ x ≤ 9223372036854775807) (hb : -9223372036854775808 ≤ y ∧ y ≤ 9223372036854775807) (hc : -9223372036854775808 ≤ z ∧ z ≤ 9223372036854775807) (w : World) :
    Calls Try.prog 3 #[.agg #[.int .i64 v, .int .i64 l], .agg #[.int .i64 a, .int .i64 b, .int .i64 c], .agg #[.int .i64 x, .int .i64 y, .int .i64 z]] w fun e w' =>
      e = .returned (.bool true) ∧ Below w.heap.size w w' := by
  go_enter Try.func3, Try.ntmps3
  go_upto_region 1 with fail
  go_cut [7, 8] (fun s7 s8 wx => ∃ p q : Nat, s7 = .pointer (some ⟨p, 0, none⟩) ∧ s8 = .pointer (some ⟨q, 0, none⟩) ∧ Blk wx p #[.int .i64 v, .int .i64 l] ∧ Blk wx q #[.int .i64 v, .int .i64 l]
    ∧ Blk wx (w.heap.size + 1) #[.int .i64 a, .int .i64 b, .int .i64 c] ∧ Blk wx (w.heap.size + 1 + 1) #[.int .i64 x, .int .i64 y, .int .i64 z] ∧ Below w.heap.size w wx)
  case first =>
    go_region_held3 (fun w' => (∀ o, w'.cell? ⟨w.heap.size, o, none⟩ = (#[.int .i64 v, .int .i64 l] : Array Value)[o]?) ∧ w.heap.size + 1 + 1 + 1 ≤ w'.heap.size) (first | (refine ⟨fun o => ?_, ?_⟩ <;> simp [*, go_sem] <;> omega) | go_keep) (fail)
    all_goals (go_wp2_with fail; go_meet)
    all_goals (refine ⟨_, _, rfl, rfl, ?_, ?_, ?_, ?_, ?_⟩)
    all_goals (first | (repeat (first | assumption | apply Blk.drew | (refine Blk.new' ?_; simp; done) | apply Blk.alloc | (refine Blk.other ?_ (by simp <;> omega) _) | (refine Blk.keep (by assumption) ?_))) | (repeat (first | exact Below.refl _ _ | assumption | apply Below.drew | (refine Below.setCell ?_ (by simp <;> omega) _) | (refine Below.alloc ?_ (by simp <;> omega) _) | (refine Below.trans ?_ (Below.mono (by assumption) (by simp <;> omega))))))
    all_goals (repeat (first | exact Below.refl _ _ | assumption | apply Below.drew | (refine Below.setCell ?_ (by simp <;> omega) _) | (refine Below.alloc ?_ (by simp <;> omega) _) | (refine Below.trans ?_ (Below.mono (by assumption) (by simp <;> omega)))))
  case rest =>
    obtain ⟨p, q, rfl, rfl, B1, B2, B3, B4, hbw⟩ := hcut
    obtain ⟨p1, p2, p3⟩ := id B1
    obtain ⟨q1, q2, q3⟩ := id B2
    obtain ⟨a1, a2, a3⟩ := id B3
    obtain ⟨x1, x2, x3⟩ := id B4
    go_wp2_with fail
    refine (vote_any _ _ _ _ _ _).mono ?_
    rintro e w1 ⟨rfl, hb1⟩
    clear p1 p2 p3 q1 q2 q3 a1 a2 a3 x1 x2 x3
    obtain ⟨p1, p2, p3⟩ := B1.keep hb1
    obtain ⟨q1, q2, q3⟩ := B2.keep hb1
    obtain ⟨a1, a2, a3⟩ := B3.keep hb1
    obtain ⟨x1, x2, x3⟩ := B4.keep hb1
    go_wp2_with fail
    refine (rvote_any _ _ _ _ _ _).mono ?_
    rintro e w2 ⟨rfl, hb2⟩
    have C0 := (Blk.new w1 #[.int .i64 (voteF v l a b c).1, .int .i64 (voteF v l a b c).2.1] 25).keep hb2
    have C1 := ((B1.keep hb1).alloc _).keep hb2
    have C2 := ((B2.keep hb1).alloc _).keep hb2
    have C3 := ((B3.keep hb1).alloc _).keep hb2
    have C4 := ((B4.keep hb1).alloc _).keep hb2
    have hb02 : Below w.heap.size w w2 := (hbw.trans ((hb1.mono hbw.size).alloc (by have := hb1.size; have := hbw.size; omega) _)).trans (hb2.mono (by have := hb1.size; have := hbw.size; simp; omega))
    clear p1 p2 p3 q1 q2 q3 a1 a2 a3 x1 x2 x3 hb1 hb2 hbw B1 B2 B3 B4
    generalize w1.heap.size = g1 at *
    obtain ⟨r1, r2, r3⟩ := id C0
    obtain ⟨p1, p2, p3⟩ := id C1
    obtain ⟨q1, q2, q3⟩ := id C2
    obtain ⟨a1, a2, a3⟩ := id C3
    obtain ⟨x1, x2, x3⟩ := id C4
    go_wp2_with fail
    go_region_held3 (fun w' => (∀ o, w'.cell? ⟨g1, o, none⟩ = (#[.int .i64 (voteF v l a b c).1, .int .i64 (voteF v l a b c).2.1] : Array Value)[o]?) ∧ g1 < w'.heap.size ∧ (∀ o, w'.cell? ⟨w2.heap.size, o, none⟩ = (#[.int .i64 (voteF v l a b c).1, .int .i64 (voteF v l a b c).2.1] : Array Value)[o]?) ∧ w2.heap.size < w'.heap.size ∧ (∀ o, w'.cell? ⟨p, o, none⟩ = (#[.int .i64 v, .int .i64 l] : Array Value)[o]?) ∧ p < w'.heap.size ∧ (∀ o, w'.cell? ⟨q, o, none⟩ = (#[.int .i64 v, .int .i64 l] : Array Value)[o]?) ∧ q < w'.heap.size ∧ (∀ o, w'.cell? ⟨w.heap.size + 1, o, none⟩ = (#[.int .i64 a, .int .i64 b, .int .i64 c] : Array Value)[o]?) ∧ w.heap.size + 1 < w'.heap.size ∧ (∀ o, w'.cell? ⟨w.heap.size + 1 + 1, o, none⟩ = (#[.int .i64 x, .int .i64 y, .int .i64 z] : Array Value)[o]?) ∧ w.heap.size + 1 + 1 < w'.heap.size ∧ Below w.heap.size w w')
      (first
        | exact ⟨(C0.alloc _).drew.cell, (C0.alloc _).drew.lt, (Blk.new w2 _ _).drew.cell, (Blk.new w2 _ _).drew.lt, (C1.alloc _).drew.cell, (C1.alloc _).drew.lt, (C2.alloc _).drew.cell, (C2.alloc _).drew.lt, (C3.alloc _).drew.cell, (C3.alloc _).drew.lt, (C4.alloc _).drew.cell, (C4.alloc _).drew.lt, (hb02.alloc (by have := C3.lt; omega) _).drew⟩
        | (obtain ⟨s0, t0, s1, t1, s2, t2, s3, t3, s4, t4, s5, t5, sb⟩ := ‹(∀ o : Nat, _) ∧ _›; exact ⟨keepO hbx t0 s0, keepL hbx t0, keepO hbx t1 s1, keepL hbx t1, keepO hbx t2 s2, keepL hbx t2, keepO hbx t3 s3, keepL hbx t3, keepO hbx t4 s4, keepL hbx t4, keepO hbx t5 s5, keepL hbx t5, sb.trans (Below.mono hbx sb.size)⟩)
        | (obtain ⟨s0, t0, s1, t1, s2, t2, s3, t3, s4, t4, s5, t5, sb⟩ := ‹(∀ o : Nat, _) ∧ _›; exact ⟨allocO t0 s0, allocL t0, allocO t1 s1, allocL t1, allocO t2 s2, allocL t2, allocO t3 s3, allocL t3, allocO t4 s4, allocL t4, allocO t5 s5, allocL t5, sb.alloc sb.size _⟩))
      (first | (go_at_call 7; refine (may_any _ _ _ _ _).mono ?_; rintro e w' ⟨rfl, hbx⟩) | (go_at_call 8; refine (rmay_any _ _ _ _ _).mono ?_; rintro e w' ⟨rfl, hbx⟩))
    obtain ⟨-, -, -, -, -, -, -, -, -, -, s5, t5, sb⟩ := ‹(∀ o : Nat, _) ∧ _›
    go_wp2_with fail
    go_region_held3 (fun w' => (∀ o, w'.cell? ⟨w.heap.size + 1 + 1, o, none⟩ = (#[.int .i64 x, .int .i64 y, .int .i64 z] : Array Value)[o]?) ∧ w.heap.size + 1 + 1 < w'.heap.size ∧ Below w.heap.size w w')
      (first
        | exact ⟨s5, t5, (sb).drew⟩
        | (obtain ⟨s0, t0, sb⟩ := ‹(∀ o : Nat, _) ∧ _›; exact ⟨keepO hbx t0 s0, keepL hbx t0, sb.trans (Below.mono hbx sb.size)⟩)
        | (obtain ⟨s0, t0, sb⟩ := ‹(∀ o : Nat, _) ∧ _›; exact ⟨allocO t0 s0, allocL t0, sb.alloc sb.size _⟩))
      (first | (go_at_call 9; refine (three_any _ _ _ ha hb hc _).mono ?_; rintro e w' ⟨rfl, rfl⟩) | (go_at_call 10; refine (rthree_any _ _ _ ha hb hc _).mono ?_; rintro e w' ⟨rfl, rfl⟩) | (go_at_call 11; refine (works_any _).mono ?_; rintro e w' ⟨rfl, hbx⟩))
    all_goals (obtain ⟨-, -, sb⟩ := ‹(∀ o : Nat, _) ∧ _›)
    all_goals go_wp2_with fail
    all_goals go_ret
    all_goals exact ⟨rfl, sb⟩

end Go.Proofs.Ytaomimincmggfaa
