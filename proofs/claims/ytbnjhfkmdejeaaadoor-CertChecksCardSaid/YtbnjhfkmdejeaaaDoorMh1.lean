/- Ref5, RBoth, RefO, Held. -/
import Derived.Test.YtbnjhfkmdejeaaaDoorMg11
import Derived.Test.YtbnjhfkmdejeaaaDoorMg7
import Derived.Test.YtbnjhfkmdejeaaaDoorMg13
import Derived.Test.YtbnjhfkmdejeaaaDoorMg2
import Derived.Test.YtbnjhfkmdejeaaaDoorMg16
import Derived.Test.YtbnjhfkmdejeaaaDoorMg14
import Derived.Test.YtbnjhfkmdejeaaaDoorRows
set_option linter.unnecessarySimpa false

/- The document's answer for layer 5: power, a quorum, what may be faulty, who is named. -/
set_option linter.unusedSimpArgs false
set_option linter.unusedVariables false
namespace Go.Proofs.YtbnjhfkmdejeaaaDoor
open Go.RowKit Pl

set_option maxRecDepth 100000 in
set_option maxHeartbeats 1000000 in
theorem rtotal_any (v : Value) (l : List (Bs × Int)) (w : World) (hv : MS w v l) :
    Calls Tryd.prog 53 #[v] w fun e w' => e = .returned (.int .i64 (totM l)) ∧ Below w.heap.size w w' := by
  generalize hr : totM l = r
  have HR := Lib.hid hr
  clear hr
  obtain ⟨a, c, rfl⟩ := hv.form
  have hm := hv.small
  have hchk := rmcheck_any _ l w hv
  have HV := Lib.hid hv
  clear hv
  cases hc : chkM l
  · rw [hc] at hchk
    have HC := Lib.hid hchk
    have HR2 : Hid (0 = r) := Lib.hid (by rw [← HR.out]; simp [totM, hc])
    clear hchk hc HR HV
    go_enter Tryd.func53, Tryd.ntmps53
    go_wp2_with fail
    refine HC.out.mono ?_
    rintro e w1 ⟨rfl, q, rfl⟩
    unfold setI
    go_wp2_with fail
    all_goals (go_ret; refine ⟨?_, below_drewN (Below.refl _ _) q⟩; rw [← HR2.out]; rfl)
  · rw [hc] at hchk
    have HC := Lib.hid hchk
    have HR2 : Hid (sumM l = r) := Lib.hid (by rw [← HR.out]; simp [totM, hc])
    simp only [chkM, Bool.and_eq_true, decide_eq_true_eq] at hc
    have h7 := hc.1.2
    have HB := Lib.hid (sumM_take l (fun i hi => (okM_at l [] hc.2 i hi).2))
    have HO := Lib.hid (okM_at l [] hc.2)
    clear hchk hc HR
    go_enter Tryd.func53, Tryd.ntmps53
    go_wp2_with fail
    refine HC.out.mono ?_
    rintro e w1 ⟨rfl, q, rfl⟩
    have hb := below_drewN (Below.refl w.heap.size w) q
    unfold setI
    go_wp2_with fail
    go_loopw [3, 4] (fun s3 s4 wr => ∃ i : Nat, i ≤ l.length ∧ s4 = .int .i64 i ∧ s3 = .int .i64 (sumM (l.take i)) ∧ Below w.heap.size w wr) (fun _ s4 _ => l.length - (intOf s4).toNat)
    case atStart => exact ⟨0, by omega, rfl, by simp [sumM], hb⟩
    case round =>
      obtain ⟨i, hi, rfl, rfl, hb⟩ := hrel
      obtain ⟨wq, h⟩ := Below.nm hb
      subst h
      by_cases hlt : i < l.length
      · have hlt' : (i : Int) < (l.length : Int) := by omega
        obtain ⟨g, off, rfl, hg, c1, c2⟩ := (HV.out.keep hb).at i hlt
        obtain ⟨o1, o2, o3⟩ := HO.out i hlt
        have hB := HB.out i (by omega)
        have hnx : sumM (l.take (i + 1)) = sumM (l.take i) + (l.getD i ([], 0)).2 := by rw [take_getD l i hlt, sumM_app]
        generalize hx : l.getD i ([], 0) = x at *
        obtain ⟨n, p⟩ := x
        simp only at c1 c2 hnx o1 o2 o3
        generalize sumM (l.take i) = s at *
        have q1 : IntKind.i64.wrap (s + p) = s + p := IntWalk.i64_in _ (by omega)
        have HX := Lib.hid hx
        clear hx hB HB HO
        go_wp2_with fail
        exact ⟨⟨i + 1, by omega, by go_num, by rw [hnx], hb⟩, by simp [intOf]; omega⟩
      · obtain rfl : i = l.length := by omega
        have hlt' : ¬ (l.length : Int) < (l.length : Int) := by omega
        rw [List.take_length]
        go_wp2_with fail
        all_goals (go_ret; refine ⟨?_, hb⟩; rw [← HR2.out]; rfl)

theorem quoM_eq (l : List (Bs × Int)) (q : Int) (h0 : 0 ≤ q) (h1 : 0 < totM l → 2 * totM l < 3 * q ∧ 3 * (q - 1) ≤ 2 * totM l) (h2 : totM l = 0 → q = 0) : quoM l = q := by
  have := totM_bound l
  unfold quoM
  split
  · rename_i h; exact (h2 h).symm
  · rename_i h
    have := h1 (by omega)
    rw [Int.tdiv_eq_ediv_of_nonneg (by omega)]
    omega
theorem mostM_eq (l : List (Bs × Int)) (q : Int) (h0 : 0 ≤ q) (h1 : 0 < totM l → 3 * q < totM l ∧ totM l ≤ 3 * (q + 1)) (h2 : totM l = 0 → q = 0) : mostM l = q := by
  have := totM_bound l
  unfold mostM
  split
  · rename_i h; exact (h2 h).symm
  · rename_i h
    have := h1 (by omega)
    rw [Int.tdiv_eq_ediv_of_nonneg (by omega)]
    omega



set_option maxRecDepth 100000 in
set_option maxHeartbeats 400000 in
theorem rhas_any (v : Value) (l : List Bs) (s : Bs) (w : World) (hv : SS w v l) :
    Calls Tryd.prog 50 #[v, .string ⟨List.toArray (s)⟩] w fun e w' => e = .returned (.bool (l.contains s)) ∧ w = w' := by
  generalize hr : l.contains s = r
  have HR := Lib.hid hr
  clear hr
  obtain ⟨a, c, rfl⟩ := hv.form
  have hm := hv.small
  have HV := Lib.hid hv
  clear hv
  go_enter Tryd.func50, Tryd.ntmps50
  go_wp2_with fail
  go_loopw [5] (fun s5 wr => ∃ i : Nat, i ≤ l.length ∧ s5 = .int .i64 i ∧ Hid ((l.drop i).contains s = r) ∧ wr = w) (fun s5 _ => l.length - (intOf s5).toNat)
  case atStart => exact ⟨0, by omega, rfl, Lib.hid HR.out, rfl⟩
  case round =>
    obtain ⟨i, hi, rfl, HI, rfl⟩ := hrel
    by_cases hlt : i < l.length
    · have hlt' : (i : Int) < (l.length : Int) := by omega
      obtain ⟨g, off, rfl, c1⟩ := HV.out.at i hlt
      have hi2 := HI.out
      rw [List.drop_eq_getElem_cons hlt, List.contains_cons] at hi2
      have hg : l.getD i [] = l[i] := by rw [List.getD_eq_getElem?_getD, List.getElem?_eq_getElem hlt]; rfl
      rw [← hg] at hi2
      generalize hx : l.getD i [] = x at *
      have HX := Lib.hid hx
      clear hx hg
      by_cases he : x = s
      · have HZ : Hid (true = r) := Lib.hid (by rw [← hi2, he]; simp)
        have e1 : (x == s) = true := by simpa using he
        have e2 : decide (x = s) = true := by simpa using he
        clear hi2 HI HR
        go_wp2_with fail
        all_goals (go_ret; exact ⟨by rw [← HZ.out]; rfl, rfl⟩)
      · have HZ : Hid ((l.drop (i + 1)).contains s = r) := Lib.hid (by rw [← hi2]; have : (s == x) = false := (by simpa using fun h => he h.symm); rw [this]; simp)
        have e1 : (x == s) = false := by simpa using he
        have e2 : decide (x = s) = false := by simpa using he
        clear hi2 HI HR
        go_wp2_with fail
        exact ⟨⟨i + 1, by omega, by go_num, HZ, trivial⟩, by simp [intOf]; omega⟩
    · obtain rfl : i = l.length := by omega
      have hlt' : ¬ (l.length : Int) < (l.length : Int) := by omega
      have HZ : Hid (false = r) := Lib.hid (by rw [← HI.out]; simp)
      clear HI HR
      go_wp2_with fail
      all_goals (go_ret; exact ⟨by rw [← HZ.out]; rfl, rfl⟩)
end Go.Proofs.YtbnjhfkmdejeaaaDoor

/- The document's answer for layer 5: the power of those who are named; what two lists have in common. -/
set_option linter.unusedSimpArgs false
set_option linter.unusedVariables false
namespace Go.Proofs.YtbnjhfkmdejeaaaDoor
open Go.RowKit Pl

set_option maxRecDepth 100000 in
set_option maxHeartbeats 1000000 in
theorem rof_any (v u : Value) (l : List (Bs × Int)) (names : List Bs) (w : World) (hv : MS w v l) (hu : SS w u names) :
    Calls Tryd.prog 52 #[v, u] w fun e w' => e = .returned (.int .i64 (ofM l names)) ∧ Below w.heap.size w w' := by
  generalize hr : ofM l names = r
  have HR := Lib.hid hr
  clear hr
  obtain ⟨a, c, rfl⟩ := hv.form
  obtain ⟨b, d, rfl⟩ := hu.form
  have hm := hv.small
  have hchk := rmcheck_any _ l w hv
  have HV := Lib.hid hv
  have HU := Lib.hid hu
  clear hv hu
  cases hc : chkM l
  · rw [hc] at hchk
    have HC := Lib.hid hchk
    have HR2 : Hid (0 = r) := Lib.hid (by rw [← HR.out]; simp [ofM, hc])
    clear hchk hc HR HV HU
    go_enter Tryd.func52, Tryd.ntmps52
    go_wp2_with fail
    refine HC.out.mono ?_
    rintro e w1 ⟨rfl, q, rfl⟩
    unfold setI
    go_wp2_with fail
    all_goals (go_ret; refine ⟨?_, below_drewN (Below.refl _ _) q⟩; rw [← HR2.out]; rfl)
  · rw [hc] at hchk
    have HC := Lib.hid hchk
    have HR2 : Hid (sumOf names l = r) := Lib.hid (by rw [← HR.out]; simp [ofM, hc])
    simp only [chkM, Bool.and_eq_true, decide_eq_true_eq] at hc
    have h7 := hc.1.2
    have HO := Lib.hid (okM_at l [] hc.2)
    have HB := Lib.hid (sumOf_take names l (fun i hi => (okM_at l [] hc.2 i hi).2))
    clear hchk hc HR
    go_enter Tryd.func52, Tryd.ntmps52
    go_wp2_with fail
    refine HC.out.mono ?_
    rintro e w1 ⟨rfl, q, rfl⟩
    have hb := below_drewN (Below.refl w.heap.size w) q
    unfold setI
    go_wp2_with fail
    go_loopw [5, 6] (fun s5 s6 wr => ∃ i : Nat, i ≤ l.length ∧ s6 = .int .i64 i ∧ s5 = .int .i64 (sumOf names (l.take i)) ∧ Below w.heap.size w wr) (fun _ s6 _ => l.length - (intOf s6).toNat)
    case atStart => exact ⟨0, by omega, rfl, by simp [sumOf], hb⟩
    case round =>
      obtain ⟨i, hi, rfl, rfl, hb⟩ := hrel
      obtain ⟨wq, h⟩ := Below.nm hb
      subst h
      by_cases hlt : i < l.length
      · have hlt' : (i : Int) < (l.length : Int) := by omega
        obtain ⟨g, off, rfl, hg, c1, c2⟩ := (HV.out.keep hb).at i hlt
        obtain ⟨o1, o2, o3⟩ := HO.out i hlt
        have hB := HB.out i (by omega)
        have hnx : sumOf names (l.take (i + 1)) = sumOf names (l.take i) + (if names.contains (l.getD i ([], 0)).1 then (l.getD i ([], 0)).2 else 0) := by rw [take_getD l i hlt, sumOf_app]
        generalize hx : l.getD i ([], 0) = x at *
        obtain ⟨n, p⟩ := x
        simp only at c1 c2 hnx o1 o2 o3
        generalize sumOf names (l.take i) = s at *
        have q1 : IntKind.i64.wrap (s + p) = s + p := IntWalk.i64_in _ (by omega)
        have HX := Lib.hid hx
        have HNX := Lib.hid hnx
        clear hx hB HB HO hnx
        go_wp2_with fail
        refine (rhas_any _ names n _ (HU.out.keep hb)).mono ?_
        rintro e w2 ⟨rfl, rfl⟩
        cases hin : names.contains n
        · have HN2 : Hid (sumOf names (l.take (i + 1)) = s) := Lib.hid (by rw [HNX.out, hin]; simp)
          clear HNX hin
          go_wp2_with fail
          exact ⟨⟨i + 1, by omega, by go_num, by rw [HN2.out], hb⟩, by simp [intOf]; omega⟩
        · have HN2 : Hid (sumOf names (l.take (i + 1)) = s + p) := Lib.hid (by rw [HNX.out, hin]; simp)
          clear HNX hin
          go_wp2_with fail
          exact ⟨⟨i + 1, by omega, by go_num, by rw [HN2.out], hb⟩, by simp [intOf]; omega⟩
      · obtain rfl : i = l.length := by omega
        have hlt' : ¬ (l.length : Int) < (l.length : Int) := by omega
        rw [List.take_length]
        go_wp2_with fail
        all_goals (go_ret; refine ⟨?_, hb⟩; rw [← HR2.out]; rfl)

theorem less_lt : ∀ (x y : Bs), Op.bytesLess x y = decide (x < y)
  | [], [] => by simp [Op.bytesLess]
  | _ :: _, [] => by simp [Op.bytesLess]
  | [], _ :: _ => by simp [Op.bytesLess]
  | a :: x, b :: y => by
    rw [Op.bytesLess, less_lt x y]
    simp only [List.cons_lt_cons_iff]
    by_cases h1 : a < b <;> by_cases h2 : a = b <;> by_cases h3 : x < y <;> simp [h1, h2, h3]
@[go_sem high] theorem lss_S (t : TypeId) (a b : Bs) : binOp .lss t (.string ⟨List.toArray (a)⟩) (.string ⟨List.toArray (b)⟩) = pure (.bool (Op.bytesLess a b)) := by
  rw [binOp_string_lss]
  rw [Lib.toList_data, Lib.toList_data]

end Go.Proofs.YtbnjhfkmdejeaaaDoor

/- The document's table: a sorted list of signatures; whether a certificate is good by it. -/
set_option linter.unusedSimpArgs false
set_option linter.unusedVariables false
namespace Go.Proofs.YtbnjhfkmdejeaaaDoor
open Go.RowKit Pl

theorem gtr_S3 (t : TypeId) (a b : Bs) : binOp .gtr t (.string ⟨List.toArray (a)⟩) (.string ⟨List.toArray (b)⟩) = pure (.bool (decide (b < a))) := by
  rw [binOp_string_gtr]
  congr 2
  have h := leS_false a b
  unfold leS at h
  rw [Lib.toList_data, Lib.toList_data]
  cases h2 : (Op.bytesLess a b || a == b)
  · simp [h.1 h2]
  · have : ¬ b < a := fun h3 => by rw [h.2 h3] at h2; cases h2
    simp [this]
attribute [local go_sem high] gtr_S3

theorem GRow.at {w : World} {base : Nat} {a : Option Addr} {n cap : Nat} {l : List Sg} (h : GRow w base (.slice a n cap) l) {i : Nat} (hi : i < l.length) : ∃ g, a = some ⟨g, 0, none⟩ ∧ n = l.length ∧ g < w.heap.size ∧
    w.cell? ⟨g, i * 3, none⟩ = some (.string ⟨List.toArray ((l.getD i sg0').1)⟩) ∧ w.cell? ⟨g, i * 3 + 1, none⟩ = some (.string ⟨List.toArray ((l.getD i sg0').2.1)⟩) := by
  rcases h.cells with ⟨_, rfl⟩ | ⟨g, cap', hv, h1, h2, h3, h4, h5, h6⟩
  · simp at hi
  · injection hv with e1 e2 _
    obtain ⟨q1, q2, _⟩ := h5 i hi
    rw [Nat.zero_add] at q1 q2
    exact ⟨g, e1, e2, h2, q1, q2⟩

theorem isIn_perm {M L : List Sg} (h : M.Perm L) (n m : Bs) : isIn M n m = isIn L n m := by
  unfold isIn
  rw [decide_eq_decide]
  exact (h.map keyOfS).mem_iff
theorem isIn_get {M : List Sg} {n m : Bs} (h : isIn M n m = true) : ∃ i, i < M.length ∧ (M.getD i sg0').1 = n ∧ (M.getD i sg0').2.1 = m := by
  rw [isIn_mem] at h
  obtain ⟨x, hx, he⟩ := List.mem_map.1 h
  obtain ⟨i, hi, rfl⟩ := List.getElem_of_mem hx
  injection he with h1 h2
  exact ⟨i, hi, by rw [List.getD_eq_getElem?_getD, List.getElem?_eq_getElem hi]; exact h1, by rw [List.getD_eq_getElem?_getD, List.getElem?_eq_getElem hi]; exact h2⟩
theorem isIn_of_get {M : List Sg} {n m : Bs} {i : Nat} (hi : i < M.length) (h1 : (M.getD i sg0').1 = n) (h2 : (M.getD i sg0').2.1 = m) : isIn M n m = true := by
  rw [isIn_mem]
  refine List.mem_map.2 ⟨M.getD i sg0', ?_, by rw [← h1, ← h2]; rfl⟩
  rw [List.getD_eq_getElem?_getD, List.getElem?_eq_getElem hi]
  exact List.getElem_mem hi
/-- Behind one that is above it it is not. -/
theorem not_in {M : List Sg} (hs : SortedS M) {n m : Bs} {i : Nat} (hi : i < M.length) (hlow : ∀ j, j < i → ¬((M.getD j sg0').1 = n ∧ (M.getD j sg0').2.1 = m)) (hb : n < (M.getD i sg0').1 ∨ (M.getD i sg0').1 = n ∧ m < (M.getD i sg0').2.1) : isIn M n m = false := by
  cases h : isIn M n m
  · rfl
  · obtain ⟨j, hj, h1, h2⟩ := isIn_get h
    rcases Nat.lt_or_ge j i with hlt | hge
    · exact absurd ⟨h1, h2⟩ (hlow j hlt)
    · rcases Nat.eq_or_lt_of_le hge with e | hlt
      · subst e
        rcases hb with hb | ⟨_, hb⟩
        · rw [h1] at hb; exact absurd hb (List.lt_irrefl _)
        · rw [h2] at hb; exact absurd hb (List.lt_irrefl _)
      · refine absurd ?_ (hs i j hlt hj)
        unfold ltS
        rw [h1, h2]
        rcases hb with hb | ⟨e, hb⟩
        · exact .inl hb
        · exact .inr ⟨e.symm, hb⟩

set_option maxRecDepth 100000 in
set_option maxHeartbeats 1000000 in
theorem rat_any (base : Nat) (v : Value) (M : List Sg) (hs : SortedS M) (n m : Bs) (hM : M.length ≤ 1000000) (w : World) (hv : GRow w base v M) :
    Calls Tryd.prog 74 #[v, .string ⟨List.toArray (n)⟩, .string ⟨List.toArray (m)⟩] w fun e w' => ∃ k : Int, e = .returned (.tuple #[.int .i64 (k), .bool (isIn M n m)]) ∧ w = w' := by
  obtain ⟨a, c, rfl⟩ := hv.form
  have HV := Lib.hid hv
  have HS := Lib.hid hs
  generalize hr : isIn M n m = r
  have HR := Lib.hid hr
  clear hv hs hr
  go_enter Tryd.func74, Tryd.ntmps74
  go_wp2_with fail
  go_loopw [8] (fun s8 wr => ∃ i : Nat, i ≤ M.length ∧ s8 = .int .i64 (i) ∧ (∀ j, j < i → ¬((M.getD j sg0').1 = n ∧ (M.getD j sg0').2.1 = m)) ∧ wr = w) (fun s8 _ => M.length - (intOf s8).toNat)
  case atStart => exact ⟨0, by omega, rfl, fun j hj => by omega, rfl⟩
  case round =>
    obtain ⟨i, hi, rfl, hlow, rfl⟩ := hrel
    by_cases hlt : i < M.length
    · obtain ⟨g, rfl, _, hg, c0, c1⟩ := HV.out.at hlt
      have d1 : decide ((i : Int) < (M.length : Int)) = true := by simp; omega
      have hi0 : 0 ≤ (i : Int) ∧ (i : Int) < (M.length : Int) := by omega
      have hno := @not_in M HS.out n m i hlt hlow
      have hyes := @isIn_of_get M n m i hlt
      have hnx : ¬((M.getD i sg0').1 = n ∧ (M.getD i sg0').2.1 = m) → ∀ j, j < i + 1 → ¬((M.getD j sg0').1 = n ∧ (M.getD j sg0').2.1 = m) := fun h j hj => by
        rcases Nat.lt_succ_iff_lt_or_eq.1 hj with h2 | rfl
        · exact hlow j h2
        · exact h
      generalize hx : M.getD i sg0' = x at *
      obtain ⟨xn, xm, xb⟩ := x
      simp only at c0 c1 hno hyes hnx
      clear hx
      have HLOW := Lib.hid hlow
      have HNX := Lib.hid hnx
      clear hlow hnx
      by_cases e1 : xn = n
      · have b1 : (xn == n) = true := by simpa using e1
        by_cases e2 : xm = m
        · have b2 : (xm == m) = true := by simpa using e2
          have HZ : Hid (true = r) := Lib.hid (by rw [← HR.out]; exact (hyes e1 e2).symm)
          clear hno hyes HR
          subst e1 e2
          have HY := HZ
          go_wp2_with fail
          all_goals (go_ret2; first | exact ⟨_, by rw [← HZ.out]; rfl, rfl⟩ | exact ⟨⟨_, by rw [← HZ.out]; rfl⟩, rfl⟩)
        · have b2 : (xm == m) = false := by simpa using e2
          subst e1
          have hl0 : ¬ xn < xn := List.lt_irrefl _
          have g1 : decide (xn < xn) = false := by simp
          by_cases e3 : m < xm
          · have g2 : decide (m < xm) = true := by simpa using e3
            have HZ : Hid (false = r) := Lib.hid (by rw [← HR.out]; exact (hno (.inr ⟨rfl, e3⟩)).symm)
            clear hno hyes HR
            go_wp2_with fail
            all_goals (go_ret2; first | exact ⟨_, by rw [← HZ.out]; rfl, rfl⟩ | exact ⟨⟨_, by rw [← HZ.out]; rfl⟩, rfl⟩)
          · have g2 : decide (m < xm) = false := by simpa using e3
            clear hno hyes
            go_wp2_with fail
            exact ⟨⟨i + 1, by omega, rfl, HNX.out (fun h => e2 h.2), trivial⟩, by simp [intOf]; omega⟩
      · have b1 : (xn == n) = false := by simpa using e1
        by_cases e3 : n < xn
        · have g2 : decide (n < xn) = true := by simpa using e3
          have HZ : Hid (false = r) := Lib.hid (by rw [← HR.out]; exact (hno (.inl e3)).symm)
          clear hno hyes HR
          go_wp2_with fail
          all_goals (go_ret2; first | exact ⟨_, by rw [← HZ.out]; rfl, rfl⟩ | exact ⟨⟨_, by rw [← HZ.out]; rfl⟩, rfl⟩)
        · have g2 : decide (n < xn) = false := by simpa using e3
          clear hno hyes
          go_wp2_with fail
          exact ⟨⟨i + 1, by omega, rfl, HNX.out (fun h => e1 h.1), trivial⟩, by simp [intOf]; omega⟩
    · obtain rfl : i = M.length := by omega
      have d1 : decide ((M.length : Int) < (M.length : Int)) = false := by simp
      have hno : isIn M n m = false := by
        cases h : isIn M n m
        · rfl
        · obtain ⟨j, hj, h1, h2⟩ := isIn_get h
          exact absurd ⟨h1, h2⟩ (hlow j hj)
      have HZ : Hid (false = r) := Lib.hid (by rw [← HR.out]; exact hno.symm)
      clear hno hlow HR
      go_wp2_with fail
      all_goals (go_ret2; first | exact ⟨_, by rw [← HZ.out]; rfl, rfl⟩ | exact ⟨⟨_, by rw [← HZ.out]; rfl⟩, rfl⟩)
set_option maxRecDepth 100000 in
theorem rsigned_any (base : Nat) (v : Value) (M : List Sg) (hs : SortedS M) (n m : Bs) (hM : M.length ≤ 1000000) (w : World) (hv : GRow w base v M) :
    Calls Tryd.prog 51 #[v, .string ⟨List.toArray (n)⟩, .string ⟨List.toArray (m)⟩] w fun e w' => e = .returned (.bool (isIn M n m)) ∧ w = w' := by
  have h := rat_any base v M hs n m hM w hv
  generalize isIn M n m = r at *
  clear hv
  go_enter Tryd.func51, Tryd.ntmps51
  go_wp2_with fail
  refine h.mono ?_
  rintro e w1 ⟨k, rfl, rfl⟩
  go_wp2_with fail
  all_goals (go_ret; exact ⟨rfl, rfl⟩)
end Go.Proofs.YtbnjhfkmdejeaaaDoor

/- General tools for walks through drawn regions. -/
set_option linter.unusedSimpArgs false
set_option linter.unusedVariables false
namespace Go.Proofs.YtbnjhfkmdejeaaaDoor
open Go.RowKit

theorem wpO_op {P : Program} {ops : Array Oper} {Q : Exit → Act → World → Prop} {a : Act} {w : World} {K : Act → World → Prop} {i : Nat} {oi : Oper} (hi : ops[i]? = some oi) (hw : Region.wanted oi (yielded ops a.tmps) = true) (h : oi.wp P a w K Q) : wpOp P ops Q i K a w := by
  unfold wpOp
  simp only [hi, hw, if_true]
  exact .inl h
theorem wpO_call {P : Program} {ops : Array Oper} {Q : Exit → Act → World → Prop} {S : World → Prop} {a : Act} {w : World} {K : Act → World → Prop} {i : Nat} {oi : Oper} (hi : ops[i]? = some oi) (hw : Region.wanted oi (yielded ops a.tmps) = true) {f : FuncId} {args : Array Value} {R : Ending → World → Prop} (hc : Calls P f args w R)
    (hv : (execOp a.eval oi).run P w = .ok (.enter f args) w) (h : ∀ e w', R e w' → ∃ v, e = .returned v ∧ S w' ∧ K (a.put oi.dst v) w') : wpOp P ops Q i (fun a' w' => S w' ∧ K a' w') a w := by
  unfold wpOp
  simp only [hi, hw, if_true]
  refine .inl ?_
  unfold Oper.wp
  rw [hv, Oper.upon_enter]
  refine hc.mono fun e w' hR => ?_
  obtain ⟨v, rfl, h1, h2⟩ := h e w' hR
  exact ⟨h1, h2⟩
/-- A post of the normal exit alone. -/
def NormQ (R : Act → World → Prop) : Exit → Act → World → Prop
  | .normal, a, w => R a w
  | _, _, _ => False
theorem wp_region_ex {P : Program} {c : Code} {Q : Exit → Act → World → Prop} {a : Act} {w : World} {ι : Type} (f : ι → Act → Act) (F : ι → World → Prop) (h : c.wp P (NormQ fun a' w' => ∃ i, a' = f i a ∧ F i w') a w) (k : ∀ i w', F i w' → Q .normal (f i a) w') : c.wp P Q a w :=
  Code.wp_mono (fun e a' w' hq => by
    cases e
    case normal =>
      obtain ⟨i, ha, hF⟩ : ∃ i, a' = f i a ∧ F i w' := hq
      subst ha
      exact k i w' hF
    all_goals exact absurd hq id) h
/-- A new block of zeros, its number a name. -/
theorem wp_allocK {P : Program} {o : Oper} {a : Act} {w : World} {K : Act → World → Prop} {Q : Exit → Act → World → Prop} (t : TypeId) (ho : o.op = .alloc t) (z : Array Value) (hz : ∀ w : World, (execOp a.eval o).run P w = .ok (.value (.pointer (some ⟨w.heap.size, 0, none⟩))) (w.alloc (.cells z t)))
    (h : ∀ k w', w.heap.size ≤ k → Blk w' k z → Below w.heap.size w w' → K (a.put o.dst (.pointer (some ⟨k, 0, none⟩))) w') : o.wp P a w K Q := by
  unfold Oper.wp
  rw [hz w]
  exact h _ _ (Nat.le_refl _) (Blk.new _ _ _) (Below.allocS (Below.refl _ _) _)
end Go.Proofs.YtbnjhfkmdejeaaaDoor
