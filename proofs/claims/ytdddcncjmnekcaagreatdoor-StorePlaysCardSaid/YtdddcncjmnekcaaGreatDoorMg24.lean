/- Reach9P, Reach9L, Plays9P. -/
import Derived.Test.YtdddcncjmnekcaaGreatDoorMg17
import Derived.Test.YtdddcncjmnekcaaGreatDoorMg19
import Derived.Test.YtdddcncjmnekcaaGreatDoorMg23
set_option linter.unnecessarySimpa false

/- The document's marks: what is marked after as many rounds as there are texts is what is reached. -/
set_option linter.unusedSimpArgs false
set_option linter.unusedVariables false
namespace Go.Proofs.YtdddcncjmnekcaaGreatDoor

namespace Pl
def cntM (M : List Bool) : Nat := (M.filter id).length
theorem cntM_le (M : List Bool) : cntM M ≤ M.length := List.length_filter_le _ _
/-- M' has all marks of M. -/
def HasM (M' M : List Bool) : Prop := M'.length = M.length ∧ ∀ i, i < M.length → M.getD i false = true → M'.getD i false = true
theorem HasM.refl (M : List Bool) : HasM M M := ⟨rfl, fun _ _ h => h⟩
theorem HasM.trans {A B C : List Bool} (h : HasM A B) (k : HasM B C) : HasM A C :=
  ⟨h.1.trans k.1, fun i hi hc => h.2 i (by rw [k.1]; exact hi) (k.2 i hi hc)⟩
theorem cntM_mono : ∀ (A B : List Bool), HasM A B → cntM B ≤ cntM A
  | [], [], _ => Nat.le_refl _
  | [], b :: B, h => by have := h.1; simp at this
  | a :: A, [], h => by have := h.1; simp at this
  | a :: A, b :: B, h => by
    have ih := cntM_mono A B ⟨by have := h.1; simpa using this, fun i hi hb => by
      have := h.2 (i + 1) (by simpa using hi) (by simpa using hb)
      simpa using this⟩
    have h0 := h.2 0 (by simp)
    simp at h0
    unfold cntM at *
    cases b <;> cases a <;> simp_all <;> omega
theorem cntM_more : ∀ (A B : List Bool), HasM A B → (∃ i, i < B.length ∧ A.getD i false = true ∧ B.getD i false = false) → cntM B < cntM A
  | [], [], _, h => by obtain ⟨i, hi, _⟩ := h; simp at hi
  | [], b :: B, h, _ => by have := h.1; simp at this
  | a :: A, [], h, _ => by have := h.1; simp at this
  | a :: A, b :: B, h, hx => by
    have hs : HasM A B := ⟨by have := h.1; simpa using this, fun i hi hb => by
      have := h.2 (i + 1) (by simpa using hi) (by simpa using hb)
      simpa using this⟩
    have hm := cntM_mono A B hs
    have h0 := h.2 0 (by simp)
    simp at h0
    obtain ⟨i, hi, h1, h2⟩ := hx
    cases i with
    | zero =>
      simp at h1 h2
      subst h1 h2
      unfold cntM at *
      simp
      omega
    | succ i =>
      have ih := cntM_more A B hs ⟨i, by simpa using hi, by simpa using h1, by simpa using h2⟩
      unfold cntM at *
      cases b <;> cases a <;> simp_all <;> omega
theorem cntM_full : ∀ (M : List Bool), M.length ≤ cntM M → ∀ i, i < M.length → M.getD i false = true
  | [], _, i, hi => by simp at hi
  | b :: M, h, i, hi => by
    have h1 := cntM_le M
    unfold cntM at *
    cases b with
    | false => simp at h; omega
    | true =>
      have ih := cntM_full M (by unfold cntM; simp at h; omega)
      cases i with
      | zero => rfl
      | succ i => simpa using ih i (by simpa using hi)
end Pl
end Go.Proofs.YtdddcncjmnekcaaGreatDoor

/- Plain: the document's marks, round by round, mark just what is reached. -/
set_option linter.unusedSimpArgs false
set_option linter.unusedVariables false
namespace Go.Proofs.YtdddcncjmnekcaaGreatDoor
namespace Pl

def keyI (l : List It) (i : Nat) : Bs := (l.getD i ([], [])).1
def txtI (l : List It) (i : Nat) : Bs := (l.getD i ([], [])).2
def kidI (l : List It) (i : Nat) : List Bs := if (dec (txtI l i)).2 = 0 then kidsF (dec (txtI l i)).1.kid else []
def mark1 (l : List It) (M : List Bool) (k : Bs) : List Bool := if hereI k l then M.set (atI k l) true else M
def markL (l : List It) (M : List Bool) (ks : List Bs) : List Bool := ks.foldl (mark1 l) M
def round1 (l : List It) (M : List Bool) (i : Nat) : List Bool := if M.getD i false then markL l M (kidI l i) else M
def roundU (l : List It) (M : List Bool) (n : Nat) : List Bool := (List.range n).foldl (round1 l) M
def rounds (l : List It) (M : List Bool) : Nat → List Bool
  | 0 => M
  | r + 1 => roundU l (rounds l M r) l.length
def startM (l : List It) (S : List Bs) : List Bool := markL l (List.replicate l.length false) S
def endM (l : List It) (S : List Bs) : List Bool := rounds l (startM l S) l.length
def outM (l : List It) (M : List Bool) (n : Nat) : List Bs := ((List.range n).filter (fun i => M.getD i false)).map (keyI l)

theorem mark1_len (l : List It) (M : List Bool) (k : Bs) : (mark1 l M k).length = M.length := by
  unfold mark1; split <;> simp
theorem markL_len (l : List It) : ∀ (ks : List Bs) (M : List Bool), (markL l M ks).length = M.length
  | [], M => rfl
  | k :: ks, M => by
    show (markL l (mark1 l M k) ks).length = _
    rw [markL_len l ks, mark1_len]
theorem markL_snoc (l : List It) (M : List Bool) (ks : List Bs) (k : Bs) : markL l M (ks ++ [k]) = mark1 l (markL l M ks) k := by
  unfold markL; rw [List.foldl_append]; rfl
theorem round1_len (l : List It) (M : List Bool) (i : Nat) : (round1 l M i).length = M.length := by
  unfold round1; split
  · exact markL_len l _ M
  · rfl
theorem roundU_succ (l : List It) (M : List Bool) (n : Nat) : roundU l M (n + 1) = round1 l (roundU l M n) n := by
  unfold roundU; rw [List.range_succ, List.foldl_append]; rfl
theorem roundU_len (l : List It) (M : List Bool) : ∀ n, (roundU l M n).length = M.length
  | 0 => rfl
  | n + 1 => by rw [roundU_succ, round1_len, roundU_len l M n]
theorem rounds_len (l : List It) (M : List Bool) : ∀ r, (rounds l M r).length = M.length
  | 0 => rfl
  | r + 1 => by show (roundU l (rounds l M r) l.length).length = _; rw [roundU_len, rounds_len l M r]
theorem startM_len (l : List It) (S : List Bs) : (startM l S).length = l.length := by
  unfold startM; rw [markL_len, List.length_replicate]
theorem endM_len (l : List It) (S : List Bs) : (endM l S).length = l.length := by
  unfold endM; rw [rounds_len, startM_len]
theorem outM_succ (l : List It) (M : List Bool) (n : Nat) : outM l M (n + 1) = if M.getD n false then outM l M n ++ [keyI l n] else outM l M n := by
  unfold outM; rw [List.range_succ, List.filter_append, List.map_append]
  cases h : M.getD n false
  · simp only [List.filter_cons, h]; simp
  · simp only [List.filter_cons, h]; simp

theorem getD_set (M : List Bool) (j i : Nat) (hj : j < M.length) : (M.set j true).getD i false = (decide (i = j) || M.getD i false) := by
  rw [List.getD_eq_getElem?_getD, List.getD_eq_getElem?_getD, List.getElem?_set]
  by_cases h : i = j
  · subst h; simp [hj]
  · simp [h, Ne.symm h]
theorem here_key {k : Bs} {l : List It} (h : hereI k l = true) : atI k l < l.length ∧ keyI l (atI k l) = k := by
  rw [hereI_at] at h
  simpa [keyI] using h
theorem key_mem (l : List It) (i : Nat) (hi : i < l.length) : keyI l i ∈ l.map (·.1) := by
  unfold keyI
  rw [List.getD_eq_getElem?_getD, List.getElem?_eq_getElem hi]
  exact List.mem_map.2 ⟨l[i], List.getElem_mem hi, rfl⟩
theorem key_lt {l : List It} (h : Rise l) {i j : Nat} (hij : i < j) (hj : j < l.length) : keyI l i < keyI l j := by
  unfold Rise at h
  rw [List.pairwise_iff_getElem] at h
  have := h i j (by omega) hj hij
  unfold keyI
  rw [List.getD_eq_getElem?_getD, List.getElem?_eq_getElem (by omega : i < l.length), List.getD_eq_getElem?_getD, List.getElem?_eq_getElem hj]
  exact this
theorem at_key {l : List It} (h : Rise l) {i : Nat} (hi : i < l.length) : atI (keyI l i) l = i :=
  atI_eq _ l i (by omega) (fun j hj => key_lt h hj hi) (fun _ => List.lt_irrefl _)
theorem here_at {l : List It} (h : Rise l) {i : Nat} (hi : i < l.length) : hereI (keyI l i) l = true := by
  rw [hereI_at, at_key h hi]
  simp [hi, keyI]
theorem mem_key {l : List It} {s : Bs} (h : s ∈ l.map (·.1)) : ∃ i, i < l.length ∧ keyI l i = s := by
  obtain ⟨x, hx, rfl⟩ := List.mem_map.1 h
  obtain ⟨i, hi, e⟩ := List.getElem_of_mem hx
  exact ⟨i, hi, by unfold keyI; rw [List.getD_eq_getElem?_getD, List.getElem?_eq_getElem hi, e]; rfl⟩
theorem here_iff {l : List It} (h : Rise l) (s : Bs) : hereI s l = true ↔ s ∈ l.map (·.1) := by
  constructor
  · intro hh
    have := here_key hh
    rw [← this.2]
    exact key_mem l _ this.1
  · intro hm
    obtain ⟨i, hi, rfl⟩ := mem_key hm
    exact here_at h hi

/-- What is reached, by the place of a sum. -/
inductive RchL (l : List It) (S : List Bs) : Bs → Prop
  | start {s : Bs} : s ∈ S → hereI s l = true → RchL l S s
  | step {a s : Bs} : RchL l S a → s ∈ kidI l (atI a l) → hereI s l = true → RchL l S s

def Sound (l : List It) (S : List Bs) (M : List Bool) : Prop := M.length = l.length ∧ ∀ i, i < l.length → M.getD i false = true → RchL l S (keyI l i)
theorem Sound.mark1 {l : List It} {S : List Bs} {M : List Bool} (h : Sound l S M) {k : Bs} (hk : hereI k l = true → RchL l S k) : Sound l S (mark1 l M k) := by
  refine ⟨(mark1_len l M k).trans h.1, fun i hi hm => ?_⟩
  unfold Pl.mark1 at hm
  split at hm
  · rename_i hh
    obtain ⟨h1, h2⟩ := here_key hh
    rw [getD_set M _ i (by rw [h.1]; exact h1), Bool.or_eq_true, decide_eq_true_eq] at hm
    rcases hm with rfl | hm
    · rw [h2]; exact hk hh
    · exact h.2 i hi hm
  · exact h.2 i hi hm
theorem Sound.markL {l : List It} {S : List Bs} : ∀ {ks : List Bs} {M : List Bool}, Sound l S M → (∀ k ∈ ks, hereI k l = true → RchL l S k) → Sound l S (markL l M ks)
  | [], M, h, _ => h
  | k :: ks, M, h, hk => Sound.markL (ks := ks) (h.mark1 (hk k (by simp))) (fun x hx => hk x (by simp [hx]))
theorem Sound.round1 {l : List It} {S : List Bs} (hr : Rise l) {M : List Bool} (h : Sound l S M) {i : Nat} (hi : i < l.length) : Sound l S (round1 l M i) := by
  unfold Pl.round1
  split
  · rename_i hm
    refine h.markL (fun k hk hh => .step (h.2 i hi hm) ?_ hh)
    rw [at_key hr hi]
    exact hk
  · exact h
theorem Sound.roundU {l : List It} {S : List Bs} (hr : Rise l) {M : List Bool} (h : Sound l S M) : ∀ n, n ≤ l.length → Sound l S (roundU l M n)
  | 0, _ => h
  | n + 1, hn => by rw [roundU_succ]; exact (Sound.roundU hr h n (by omega)).round1 hr (by omega)
theorem Sound.rounds {l : List It} {S : List Bs} (hr : Rise l) {M : List Bool} (h : Sound l S M) : ∀ r, Sound l S (rounds l M r)
  | 0 => h
  | r + 1 => (Sound.rounds hr h r).roundU hr l.length (Nat.le_refl _)
theorem Sound.start (l : List It) (S : List Bs) : Sound l S (startM l S) := by
  unfold startM
  refine Sound.markL ⟨by simp, fun i hi h => ?_⟩ (fun k hk hh => .start hk hh)
  rw [List.getD_eq_getElem?_getD, List.getElem?_replicate, if_pos hi] at h
  simp at h

theorem mark1_has (l : List It) (M : List Bool) (hM : M.length = l.length) (k : Bs) : HasM (mark1 l M k) M := by
  refine ⟨mark1_len l M k, fun i hi h => ?_⟩
  unfold mark1
  split
  · rename_i hh
    rw [getD_set M _ i (by rw [hM]; exact (here_key hh).1), h]
    simp
  · exact h
theorem markL_has (l : List It) : ∀ (ks : List Bs) (M : List Bool), M.length = l.length → HasM (markL l M ks) M
  | [], M, _ => HasM.refl M
  | k :: ks, M, h => (markL_has l ks (mark1 l M k) ((mark1_len l M k).trans h)).trans (mark1_has l M h k)
theorem markL_in (l : List It) : ∀ (ks : List Bs) (M : List Bool), M.length = l.length → ∀ k ∈ ks, hereI k l = true → (markL l M ks).getD (atI k l) false = true
  | [], M, _, k, hk, _ => by cases hk
  | x :: ks, M, h, k, hk, hh => by
    have hl := (mark1_len l M x).trans h
    rcases List.mem_cons.1 hk with rfl | hk
    · refine (markL_has l ks (mark1 l M k) hl).2 _ (by rw [hl]; exact (here_key hh).1) ?_
      unfold mark1
      rw [if_pos hh, getD_set M _ _ (by rw [h]; exact (here_key hh).1)]
      simp
    · exact markL_in l ks _ hl k hk hh
theorem round1_has (l : List It) (M : List Bool) (hM : M.length = l.length) (i : Nat) : HasM (round1 l M i) M := by
  unfold round1
  split
  · exact markL_has l _ M hM
  · exact HasM.refl M
theorem roundU_has (l : List It) (M : List Bool) (hM : M.length = l.length) : ∀ n, HasM (roundU l M n) M
  | 0 => HasM.refl M
  | n + 1 => by rw [roundU_succ]; exact (round1_has l _ ((roundU_len l M n).trans hM) n).trans (roundU_has l M hM n)
/-- A round marks all kids of what was marked. -/
theorem roundU_kids (l : List It) (M : List Bool) (hM : M.length = l.length) : ∀ n, n ≤ l.length → ∀ i, i < n → M.getD i false = true → ∀ k ∈ kidI l i, hereI k l = true → (roundU l M n).getD (atI k l) false = true
  | 0, _, i, hi, _, _, _, _ => by omega
  | n + 1, hn, i, hi, hm, k, hk, hh => by
    have hl := (roundU_len l M n).trans hM
    rw [roundU_succ]
    rcases Nat.lt_or_ge i n with h | h
    · exact (round1_has l _ hl n).2 _ (by rw [hl]; exact (here_key hh).1) (roundU_kids l M hM n (by omega) i h hm k hk hh)
    · have e : i = n := by omega
      subst e
      have h1 := (roundU_has l M hM i).2 i (by omega) hm
      unfold round1
      rw [if_pos h1]
      exact markL_in l _ _ hl k hk hh
def ClosedM (l : List It) (M : List Bool) : Prop := ∀ i, i < l.length → M.getD i false = true → ∀ k ∈ kidI l i, hereI k l = true → M.getD (atI k l) false = true
theorem set_same : ∀ (M : List Bool) (j : Nat), M.getD j false = true → M.set j true = M
  | [], _, _ => rfl
  | b :: M, 0, h => by simp at h; simp [h]
  | b :: M, j + 1, h => by simp at h ⊢; exact set_same M j (by simpa using h)
theorem markL_same (l : List It) : ∀ (ks : List Bs) (M : List Bool), (∀ k ∈ ks, hereI k l = true → M.getD (atI k l) false = true) → markL l M ks = M
  | [], M, _ => rfl
  | k :: ks, M, h => by
    have h1 : mark1 l M k = M := by
      unfold mark1
      split
      · rename_i hh; exact set_same M _ (h k (by simp) hh)
      · rfl
    show markL l (mark1 l M k) ks = M
    rw [h1]
    exact markL_same l ks M (fun x hx => h x (by simp [hx]))
theorem ClosedM.round {l : List It} {M : List Bool} (h : ClosedM l M) : ∀ n, n ≤ l.length → roundU l M n = M
  | 0, _ => rfl
  | n + 1, hn => by
    rw [roundU_succ, ClosedM.round h n (by omega)]
    unfold round1
    split
    · rename_i hm
      exact markL_same l _ M (h n (by omega) hm)
    · rfl
theorem rounds_closed (l : List It) (M : List Bool) (hM : M.length = l.length) : ∀ r, ClosedM l (rounds l M r) ∨ r ≤ cntM (rounds l M r)
  | 0 => .inr (Nat.zero_le _)
  | r + 1 => by
    have hl := (rounds_len l M r).trans hM
    by_cases hc : ClosedM l (rounds l M r)
    · left
      show ClosedM l (roundU l (rounds l M r) l.length)
      rw [hc.round _ (Nat.le_refl _)]
      exact hc
    · right
      rcases rounds_closed l M hM r with h | h
      · exact absurd h hc
      · show r + 1 ≤ cntM (roundU l (rounds l M r) l.length)
        have : ∃ i, i < l.length ∧ (rounds l M r).getD i false = true ∧ ∃ k ∈ kidI l i, hereI k l = true ∧ (rounds l M r).getD (atI k l) false = false := by
          refine Classical.byContradiction fun hn => hc (fun i hi hm k hk hh => ?_)
          cases hx : (rounds l M r).getD (atI k l) false
          · exact absurd ⟨i, hi, hm, k, hk, hh, hx⟩ hn
          · rfl
        obtain ⟨i, hi, hm, k, hk, hh, hx⟩ := this
        have := cntM_more _ _ (roundU_has l (rounds l M r) hl l.length) ⟨atI k l, by rw [hl]; exact (here_key hh).1, roundU_kids l _ hl l.length (Nat.le_refl _) i hi hm k hk hh, hx⟩
        omega
theorem rounds_has (l : List It) (M : List Bool) (hM : M.length = l.length) : ∀ r, HasM (rounds l M r) M
  | 0 => HasM.refl M
  | r + 1 => (roundU_has l _ ((rounds_len l M r).trans hM) l.length).trans (rounds_has l M hM r)
/-- The marks are what is reached. -/
theorem endM_iff {l : List It} (hr : Rise l) (S : List Bs) (i : Nat) (hi : i < l.length) : (endM l S).getD i false = true ↔ RchL l S (keyI l i) := by
  have h0 := startM_len l S
  have hc : ClosedM l (endM l S) := by
    rcases rounds_closed l (startM l S) h0 l.length with h | h
    · exact h
    · intro j hj _ k _ hh
      exact cntM_full _ (by rw [endM_len]; exact h) _ (by rw [endM_len]; exact (here_key hh).1)
  constructor
  · exact (Sound.rounds hr (Sound.start l S) l.length).2 i hi
  · intro h
    have key : ∀ s, RchL l S s → (endM l S).getD (atI s l) false = true := by
      intro s hs
      induction hs with
      | start h1 h2 => exact (rounds_has l (startM l S) h0 l.length).2 _ (by rw [h0]; exact (here_key h2).1) (markL_in l S _ (by simp) _ h1 h2)
      | step h1 h2 h3 ih =>
        have : ∀ a, RchL l S a → hereI a l = true := fun a h => by cases h <;> assumption
        exact hc _ (here_key (this _ h1)).1 ih _ h2 h3
    have := key _ h
    rwa [at_key hr hi] at this
theorem outM_mem {l : List It} (hr : Rise l) (S : List Bs) (s : Bs) : s ∈ outM l (endM l S) l.length ↔ RchL l S s := by
  unfold outM
  rw [List.mem_map]
  constructor
  · rintro ⟨i, hi, rfl⟩
    rw [List.mem_filter, List.mem_range] at hi
    exact (endM_iff hr S i hi.1).1 hi.2
  · intro h
    have hh : hereI s l = true := by cases h <;> assumption
    obtain ⟨h1, h2⟩ := here_key hh
    refine ⟨atI s l, ?_, h2⟩
    rw [List.mem_filter, List.mem_range]
    exact ⟨h1, (endM_iff hr S _ h1).2 (by rw [h2]; exact h)⟩
theorem outM_rise {l : List It} (hr : Rise l) (M : List Bool) : (outM l M l.length).Pairwise (fun x y => x < y) := by
  unfold outM
  rw [List.pairwise_map]
  have h1 : ((List.range l.length).filter (fun i => M.getD i false)).Pairwise (fun i j => i < j ∧ i < l.length ∧ j < l.length) := by
    have h2 : ((List.range l.length).filter (fun i => M.getD i false)).Pairwise (fun i j => i < j) := List.Pairwise.filter _ List.pairwise_lt_range
    have h3 : ∀ i ∈ (List.range l.length).filter (fun i => M.getD i false), i < l.length := fun i hi => List.mem_range.1 (List.mem_filter.1 hi).1
    exact h2.imp_of_mem (fun {a b} ha hb h => ⟨h, h3 a ha, h3 b hb⟩)
  exact h1.imp (fun {a b} h => key_lt hr h.1 h.2.2)
/-- What a list reaches, in order. -/
def lst (D : List It) (S : List Bs) : List Bs := outM D (endM D S) D.length
/-- What Keep leaves of a list: two rising ones, side by side. -/
def keepG : List It → List Bs → List It
  | [], _ => []
  | x :: r, [] => keepG r []
  | x :: r, a :: L => if a = x.1 then x :: keepG r L else keepG r (a :: L)
theorem keepG_nil : ∀ l : List It, keepG l [] = []
  | [] => rfl
  | x :: r => keepG_nil r
theorem keepG_eq : ∀ (l : List It) (L : List Bs), Rise l → L.Pairwise (fun x y => x < y) → (∀ a ∈ L, a ∈ l.map (·.1)) → keepG l L = l.filter (fun e => decide (e.1 ∈ L))
  | [], L, _, _, _ => rfl
  | x :: r, [], h, _, _ => by
    rw [keepG_nil]
    symm
    rw [List.filter_eq_nil_iff]
    intro a _
    simp
  | x :: r, a :: L, h, hp, hm => by
    unfold Rise at h
    rw [List.pairwise_cons] at h hp
    unfold keepG
    by_cases e : a = x.1
    · rw [if_pos e, List.filter_cons_of_pos (by simp [e])]
      congr 1
      rw [keepG_eq r L h.2 hp.2 (fun b hb => ?_)]
      · refine List.filter_congr (fun y hy => ?_)
        have hne : y.1 ≠ a := by
          intro e2
          have := h.1 y hy
          rw [e2, e] at this
          exact List.lt_irrefl _ this
        simp [hne]
      · have h1 := hm b (by simp [hb])
        rw [List.map_cons, List.mem_cons] at h1
        rcases h1 with h1 | h1
        · have := hp.1 b hb
          rw [h1, e] at this
          exact absurd this (List.lt_irrefl _)
        · exact h1
    · rw [if_neg e]
      have ha : a ∈ r.map (·.1) := by
        have h1 := hm a (by simp)
        rw [List.map_cons, List.mem_cons] at h1
        rcases h1 with h1 | h1
        · exact absurd h1 e
        · exact h1
      obtain ⟨y, hy, rfl⟩ := List.mem_map.1 ha
      have hx : x.1 < y.1 := h.1 y hy
      have hlt : ∀ b ∈ y.1 :: L, x.1 ≠ b := by
        intro b hb e2
        rcases List.mem_cons.1 hb with rfl | hb
        · exact e e2.symm
        · have := List.lt_trans hx (hp.1 b hb)
          rw [e2] at this
          exact List.lt_irrefl _ this
      rw [keepG_eq r (y.1 :: L) h.2 (List.pairwise_cons.2 hp) (fun b hb => ?_)]
      · rw [List.filter_cons_of_neg]
        simp only [decide_eq_true_eq]
        exact fun hh => hlt _ hh rfl
      · have h1 := hm b hb
        rw [List.map_cons, List.mem_cons] at h1
        rcases h1 with h1 | h1
        · exact absurd h1.symm (hlt b hb)
        · exact h1
theorem keepG_len : ∀ (l : List It) (L : List Bs), (keepG l L).length ≤ l.length
  | [], L => Nat.le_refl _
  | x :: r, [] => by rw [keepG_nil]; simp
  | x :: r, a :: L => by
    unfold keepG
    split
    · simp only [List.length_cons]; have := keepG_len r L; omega
    · simp only [List.length_cons]; have := keepG_len r (a :: L); omega
theorem keepG_cons (x : It) (r : List It) (a : Bs) (L : List Bs) : keepG (x :: r) (a :: L) = if a = x.1 then x :: keepG r L else keepG r (a :: L) := by
  cases r <;> rfl
theorem keepG_hit {l : List It} {L : List Bs} {i k : Nat} (hi : i < l.length) (hk : k < L.length) (h : L.getD k [] = keyI l i) : keepG (l.drop i) (L.drop k) = l.getD i ([], []) :: keepG (l.drop (i + 1)) (L.drop (k + 1)) := by
  rw [List.drop_eq_getElem_cons hi, List.drop_eq_getElem_cons hk]
  unfold keyI at h
  rw [List.getD_eq_getElem?_getD, List.getD_eq_getElem?_getD, List.getElem?_eq_getElem hi, List.getElem?_eq_getElem hk] at h
  simp only [Option.getD_some] at h
  rw [keepG_cons, if_pos h, List.getD_eq_getElem?_getD, List.getElem?_eq_getElem hi]
  rfl
theorem keepG_miss {l : List It} {L : List Bs} {i k : Nat} (hi : i < l.length) (h : k < L.length → L.getD k [] ≠ keyI l i) : keepG (l.drop i) (L.drop k) = keepG (l.drop (i + 1)) (L.drop k) := by
  rw [List.drop_eq_getElem_cons hi]
  rcases Nat.lt_or_ge k L.length with hk | hk
  · have h := h hk
    rw [List.drop_eq_getElem_cons hk]
    unfold keyI at h
    rw [List.getD_eq_getElem?_getD, List.getD_eq_getElem?_getD, List.getElem?_eq_getElem hi, List.getElem?_eq_getElem hk] at h
    simp only [Option.getD_some] at h
    rw [keepG_cons, if_neg h]
  · rw [List.drop_eq_nil_of_le hk, keepG_nil, keepG_nil]
end Pl
end Go.Proofs.YtdddcncjmnekcaaGreatDoor

/- Plain: a store and the document's list, side by side. -/
set_option linter.unusedSimpArgs false
set_option linter.unusedVariables false
namespace Go.Proofs.YtdddcncjmnekcaaGreatDoor
open Go.RowKit Pl

/-- The store's texts and the document's list. -/
structure SD (T : List Ent) (D : List It) : Prop where
  perm : T.Perm D
  rise : Rise D
  txt : ∀ e ∈ T, e.2.length ≤ 1000 ∧ e.1 = tagP 1 e.2
theorem rise_nodup {D : List It} (h : Rise D) : (D.map (·.1)).Nodup := by
  unfold List.Nodup
  rw [List.pairwise_map]
  exact h.imp (fun {a b} hlt e => by rw [e] at hlt; exact List.lt_irrefl _ hlt)
namespace SD
variable {T : List Ent} {D : List It}
theorem start : SD [] [] := ⟨List.Perm.refl _, List.Pairwise.nil, fun _ h => by cases h⟩
theorem keys (h : SD T D) (k : Bs) : k ∈ keysE T ↔ k ∈ D.map (·.1) := (h.perm.map _).mem_iff
theorem nodup (h : SD T D) : (keysE T).Nodup := (h.perm.map _).nodup_iff.2 (rise_nodup h.rise)
theorem here (h : SD T D) (k : Bs) : hereI k D = decide (k ∈ keysE T) := by
  rw [Bool.eq_iff_iff, decide_eq_true_iff, h.keys, here_iff h.rise]
theorem shortE (h : SD T D) : ShortE T := fun e he => (h.txt e he).1
theorem k32 (h : SD T D) : ∀ k ∈ keysE T, k.length = 32 := by
  intro k hk
  obtain ⟨t, ht⟩ := mem_keys.1 hk
  have e := (h.txt _ ht).2
  simp only at e
  rw [e]
  exact tagP_len _ _
theorem mem_at (h : SD T D) (i : Nat) (hi : i < D.length) : (keyI D i, txtI D i) ∈ T := by
  refine h.perm.mem_iff.2 ?_
  unfold keyI txtI
  rw [List.getD_eq_getElem?_getD, List.getElem?_eq_getElem hi]
  exact List.getElem_mem hi
theorem shortI (h : SD T D) : ∀ i, i < D.length → (txtI D i).length ≤ 1000 := fun i hi => (h.txt _ (h.mem_at i hi)).1
theorem get_at (h : SD T D) (k : Bs) : (getT T k).getD [] = getD9 D k := by
  unfold getD9
  by_cases hk : k ∈ keysE T
  · have hh : hereI k D = true := by rw [h.here]; simpa using hk
    rw [if_pos hh]
    obtain ⟨h1, h2⟩ := here_key hh
    have := get_some h.nodup (h.mem_at _ h1)
    rw [h2] at this
    rw [this]
    rfl
  · have hh : hereI k D = false := by rw [h.here]; simpa using hk
    rw [hh, get_none hk]
    rfl
theorem short9 (h : SD T D) (k : Bs) : (getD9 D k).length ≤ 1000 := by
  rw [← h.get_at]; exact get_short h.shortE k
theorem node_at (h : SD T D) (k : Bs) : nodeT T k = nodeD D k := by
  unfold nodeT nodeD
  rw [h.get_at, h.here]
  by_cases hk : k ∈ keysE T
  · rw [if_pos hk, if_pos (by simpa using hk)]
  · rw [if_neg hk, if_neg (by simpa using hk)]
theorem kids_at (h : SD T D) {k : Bs} (hk : hereI k D = true) : kidsT T k = kidI D (atI k D) := by
  unfold kidsT kidI
  rw [h.node_at, nodeD_in hk]
  have : getD9 D k = txtI D (atI k D) := by unfold getD9; rw [if_pos hk]; rfl
  rw [this]
theorem rch (h : SD T D) (S : List Bs) (s : Bs) : Rch T S s ↔ RchL D S s := by
  constructor
  · intro hr
    induction hr with
    | start h1 h2 => exact .start h1 (by rw [h.here]; simpa using h2)
    | @step a s h1 h2 h3 ih =>
      have ha : hereI a D = true := by cases ih <;> assumption
      exact .step ih (by rw [← h.kids_at ha]; exact h2) (by rw [h.here]; simpa using h3)
  · intro hr
    induction hr with
    | start h1 h2 => exact .start h1 (by rw [h.here] at h2; simpa using h2)
    | @step a s h1 h2 h3 ih =>
      have ha : hereI a D = true := by cases h1 <;> assumption
      exact .step ih (by rw [h.kids_at ha]; exact h2) (by rw [h.here] at h3; simpa using h3)
theorem isR (h : SD T D) (S : List Bs) : IsR T S (lst D S) := ⟨outM_rise h.rise _, fun s => (outM_mem h.rise S s).trans (h.rch S s).symm⟩
theorem lst_in (h : SD T D) (S : List Bs) : ∀ a ∈ lst D S, a ∈ D.map (·.1) := by
  intro a ha
  have : RchL D S a := (outM_mem h.rise S a).1 ha
  have hh : hereI a D = true := by cases this <;> assumption
  exact (here_iff h.rise a).1 hh
theorem put (h : SD T D) (t : Bs) (ht : t.length ≤ 1000) : SD (putT T t) (if hereI (tagP 1 t) D then D else insI (tagP 1 t) t D) := by
  by_cases hk : tagP 1 t ∈ keysE T
  · have hh : hereI (tagP 1 t) D = true := by rw [h.here]; simpa using hk
    rw [put_mem hk, if_pos hh]
    exact h
  · have hh : hereI (tagP 1 t) D = false := by rw [h.here]; simpa using hk
    rw [put_new hk, hh]
    refine ⟨?_, insI_rise _ _ D h.rise, fun e he => ?_⟩
    · rw [if_neg (by simp), insI_at, hh, if_neg (by simp)]
      refine (List.perm_append_singleton _ _).trans ?_
      refine (List.Perm.trans ?_ List.perm_middle.symm)
      rw [List.take_append_drop]
      exact List.Perm.cons _ h.perm
    · rcases List.mem_append.1 he with he | he
      · exact h.txt e he
      · rw [List.mem_singleton] at he
        subst he
        exact ⟨ht, rfl⟩
theorem put_len (h : SD T D) (t : Bs) : (putT T t).length ≤ T.length + 1 := by
  unfold Go.Proofs.YtdddcncjmnekcaaGreatDoor.putT
  split
  · omega
  · simp
theorem keep_eq (h : SD T D) (S I : List Bs) (hI : ∀ s, s ∈ I ↔ Rch T S s) : keepG D (lst D S) = D.filter (fun e => decide (e.1 ∈ I)) := by
  rw [keepG_eq D (lst D S) h.rise (outM_rise h.rise _) (h.lst_in S)]
  refine List.filter_congr (fun e _ => ?_)
  rw [decide_eq_decide, hI]
  exact (h.isR S).2 e.1
theorem keep (h : SD T D) (S I : List Bs) (hI : ∀ s, s ∈ I ↔ Rch T S s) : SD (keepT T I) (keepG D (lst D S)) := by
  rw [h.keep_eq S I hI]
  unfold keepT
  exact ⟨h.perm.filter _, List.Pairwise.filter _ h.rise, fun e he => h.txt e (List.mem_filter.1 he).1⟩
theorem keep_gone (h : SD T D) (S I : List Bs) (hI : ∀ s, s ∈ I ↔ Rch T S s) : T.length - (keepT T I).length = D.length - (keepG D (lst D S)).length := by
  rw [(h.keep S I hI).perm.length_eq, h.perm.length_eq]
theorem keepT_len (h : SD T D) (I : List Bs) : (keepT T I).length ≤ T.length := List.length_filter_le _ _
/-- Sums of both are the same, in order. -/
theorem sums (h : SD T D) : sortB (keysE T) = D.map (·.1) := by
  have e : sortB (keysE T) = sortB (D.map (·.1)) := sortB_of (h.perm.map _)
  rw [e]
  refine sorted_uniq _ _ (sort_lt (rise_nodup h.rise)) ?_ (fun x => (sortB_perm _).mem_iff)
  rw [List.pairwise_map]
  exact h.rise
end SD
end Go.Proofs.YtdddcncjmnekcaaGreatDoor
