/- The walk of SafetyRises. -/
import Derived.Test.YtaomimincmggfaaSafetyWorks
set_option linter.unusedSimpArgs false
set_option linter.unusedVariables false
namespace Go.Proofs.Ytaomimincmggfaa
open Go.RowKit

theorem voteF_cases (v l view just back : Int) :
    (∃ c, c ≠ 0 ∧ voteF v l view just back = (0, 0, c)) ∨ (voteF v l view just back = (view, max l back, 0) ∧ v < view ∧ l ≤ just ∧ just < view) := by
  unfold voteF
  split
  · rename_i h
    exact .inl ⟨_, h, rfl⟩
  · rename_i h
    split
    · exact .inl ⟨1, by omega, rfl⟩
    · refine .inr ⟨rfl, ?_⟩
      unfold mayF at h
      simp only [ne_eq, Classical.not_not] at h
      split at h
      · omega
      · split at h
        · omega
        · split at h <;> omega

set_option maxRecDepth 100000 in
set_option maxHeartbeats 1600000 in
theorem rises_any (b off len cap : Nat) (f g h : Nat → Int) (w : World) (hcap : len ≤ cap) (hmax : cap ≤ maxLen)
    (hc : ∀ k, k < len → w.cell? ⟨b, off + k * 3, none⟩ = some (.int .i64 (f k)) ∧ w.cell? ⟨b, off + k * 3 + 1, none⟩ = some (.int .i64 (g k)) ∧ w.cell? ⟨b, off + k * 3 + 2, none⟩ = some (.int .i64 (h k))) :
    Calls Try.prog 4 #[.slice (some ⟨b, off, none⟩) len cap] w fun e w' => e = .returned (.bool true) ∧ Below w.heap.size w w' := by
  unfold maxLen at hmax
  have HC := Lib.hid hc
  clear hc
  go_enter Try.func4, Try.ntmps4
  go_wp2_with fail
  refine (works_any _).mono ?_
  rintro e w1 ⟨rfl, hb1⟩
  go_wp2_with fail
  have hr := hb1.size
  generalize hgr : w1.heap.size = r at *
  go_loopw [4, 5, 6] (fun s4 s5 s6 wr => ∃ (k : Nat) (last lock : Int), k ≤ len ∧ k ≤ 60 ∧ s4 = .int .i64 last ∧ s5 = .int .i64 lock ∧ s6 = .int .i64 k ∧ Blk wr r #[.int .i64 last, .int .i64 lock] ∧ Below w.heap.size w wr)
    (fun _ _ s6 _ => 60 - (intOf s6).toNat)
  case atStart => exact ⟨0, 0, 0, by omega, by omega, rfl, rfl, rfl, Blk.new' hgr.symm, (hb1.alloc (by omega) _)⟩
  case round =>
    obtain ⟨k, last, lock, hk, hk60, rfl, rfl, rfl, B, hbw⟩ := hrel
    by_cases hlt : k < len
    · by_cases h60 : k < 60
      · obtain ⟨c0', c1', c2'⟩ := HC.out k hlt
        have c0 := keepC hbw c0'
        have c1 := keepC hbw c1'
        have c2 := keepC hbw c2'
        clear c0' c1' c2'
        have hrs := B.lt
        have hd60 : decide ((k : Int) < 60) = true := by simp; omega
        obtain ⟨r1, r2, r3⟩ := id B
        have hVc := voteF_cases last lock (f k) (g k) (h k)
        rcases hVc with ⟨c, hc0, hV⟩ | ⟨hV, h1, h2, h3⟩
        · have HV := Lib.hid hV
          clear hV
          have hc0' : (c == 0) = false := by simpa using hc0
          have hc1' : (c != 0) = true := by simpa using hc0
          go_wp2_with fail
          refine (vote_any _ _ _ _ _ _).mono ?_
          rintro e w2 ⟨rfl, hb2⟩
          rw [HV.out]
          have B2 := (B.alloc _).keep hb2
          have hs2 := hb2.size
          simp at hs2
          have hb02 : Below w.heap.size w w2 := (hbw.alloc hbw.size _).trans (hb2.mono (by have := hbw.size; simp; omega))
          clear r1 r2 r3 c0 c1 c2 B hbw hb2 hrs
          go_wp2_with fail
          exact ⟨⟨k + 1, last, lock, by omega, by omega, rfl, rfl, by go_num, B2.alloc _, hb02.alloc hb02.size _⟩, by simp [intOf]; omega⟩
        · have HV := Lib.hid hV
          clear hV
          go_wp2_with fail
          refine (vote_any _ _ _ _ _ _).mono ?_
          rintro e w2 ⟨rfl, hb2⟩
          rw [HV.out]
          have B2 := (B.alloc _).keep hb2
          have A2 := (Blk.new wr #[.int .i64 (f k), .int .i64 (g k), .int .i64 (h k)] 39).keep hb2
          have hb02 : Below w.heap.size w w2 := (hbw.alloc hbw.size _).trans (hb2.mono (by have := hbw.size; simp; omega))
          have hwr := hbw.size
          clear r1 r2 r3 c0 c1 c2 B hbw hb2 hrs
          have hrw : r ≠ w2.heap.size := by have := B2.lt; omega
          obtain ⟨r1, r2, r3⟩ := id B2
          obtain ⟨a1, a2, a3⟩ := id A2
          go_wp2_with fail
          go_region_held3 (fun w' => (∀ o, w'.cell? ⟨wr.heap.size, o, none⟩ = (#[.int .i64 (f k), .int .i64 (g k), .int .i64 (h k)] : Array Value)[o]?)) (exact (A2.alloc _).drew.cell) (fail)
          all_goals go_wp2_with fail
          exact ⟨⟨k + 1, f k, max lock (h k), by omega, by omega, rfl, rfl, by go_num, (((B2.set 0 _).set 1 _).alloc _).drew, (((hb02.setCell (by show _ ≤ r; omega) _).setCell (by show _ ≤ r; omega) _).alloc (by simp [World.setCell]; have := hb02.size; omega) _).drew⟩, by simp [intOf]; omega⟩
      · have hd60 : decide ((k : Int) < 60) = false := by simp; omega
        go_wp2_with fail
        go_ret
        exact ⟨rfl, hbw⟩
    · have hk' : ¬ k < len := hlt
      go_wp2_with fail
      go_ret
      exact ⟨rfl, hbw⟩

theorem rises_zero (a : Addr) (cap : Nat) (w : World) :
    Calls Try.prog 4 #[.slice (some a) 0 cap] w fun e w' => e = .returned (.bool true) ∧ Below w.heap.size w w' := by
  go_enter Try.func4, Try.ntmps4
  go_wp2_with fail
  refine (works_any _).mono ?_
  rintro e w1 ⟨rfl, hb1⟩
  go_wp2_with fail
  go_loopw [6] (fun s6 wr => s6 = .int .i64 0 ∧ Below w.heap.size w wr) (fun _ _ => 0)
  case atStart => exact ⟨rfl, hb1.alloc hb1.size _⟩
  case round =>
    obtain ⟨rfl, hbw⟩ := hrel
    go_wp2_with fail
    go_ret
    exact ⟨rfl, hbw⟩

theorem rises_nil (w : World) :
    Calls Try.prog 4 #[.slice none 0 0] w fun e w' => e = .returned (.bool true) ∧ Below w.heap.size w w' := by
  go_enter Try.func4, Try.ntmps4
  go_wp2_with fail
  refine (works_any _).mono ?_
  rintro e w1 ⟨rfl, hb1⟩
  go_wp2_with fail
  go_loopw [6] (fun s6 wr => s6 = .int .i64 0 ∧ Below w.heap.size w wr) (fun _ _ => 0)
  case atStart => exact ⟨rfl, hb1.alloc hb1.size _⟩
  case round =>
    obtain ⟨rfl, hbw⟩ := hrel
    go_wp2_with fail
    go_ret
    exact ⟨rfl, hbw⟩

end Go.Proofs.Ytaomimincmggfaa
