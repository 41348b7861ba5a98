/- A set as bytes, and its sum: the program's. -/
import Derived.Test.YtmldonbmjgelnaaDoorMembers
import Derived.Test.YtmldonbmjgelnaaDoorNum
import Derived.Test.YtmldonbmjgelnaaDoorDig
set_option linter.unusedSimpArgs false
set_option linter.unusedVariables false
namespace Go.Proofs.YtmldonbmjgelnaaDoor
open Go.RowKit Pl

namespace Pl
/-- Members as bytes. -/
def memsB : List (Bs × Int) → Bs
  | [] => []
  | (n, p) :: r => text n ++ num p.toNat ++ memsB r
def encM (l : List (Bs × Int)) : Bs := num l.length ++ memsB l
def encMR (l : List (Bs × Int)) : Bs × Int := if chkM l then (encM l, 0) else ([], 50)
theorem memsB_app (a : List (Bs × Int)) (x : Bs × Int) : memsB (a ++ [x]) = memsB a ++ (text x.1 ++ num x.2.toNat) := by
  induction a with
  | nil => simp [memsB]
  | cons y r ih => simp [memsB, ih, List.append_assoc]
theorem okM_at : ∀ (l : List (Bs × Int)) (z : Bs), okM z l = true → ∀ i, i < l.length → (l.getD i ([], 0)).1.length ≤ 6 ∧ 1 ≤ (l.getD i ([], 0)).2 ∧ (l.getD i ([], 0)).2 ≤ 1000
  | (n, p) :: r, z, h, i, hi => by
    simp only [okM, Bool.and_eq_true, Bool.not_eq_true', Bool.or_eq_false_iff, decide_eq_false_iff_not] at h
    obtain ⟨⟨⟨⟨h1, h2⟩, h3⟩, h4⟩, h5⟩ := h
    match i with
    | 0 => exact ⟨by simp; omega, by simp; omega, by simp; omega⟩
    | j + 1 => exact okM_at r n h5 j (by simpa using hi)
theorem take_getD (l : List (Bs × Int)) (i : Nat) (hi : i < l.length) : l.take (i + 1) = l.take i ++ [l.getD i ([], 0)] := by
  rw [List.take_add_one, List.getElem?_eq_getElem hi, List.getD_eq_getElem?_getD, List.getElem?_eq_getElem hi]
  rfl
theorem memsB_len (l : List (Bs × Int)) (h : ∀ i, i < l.length → (l.getD i ([], 0)).1.length ≤ 6) : ∀ k, k ≤ l.length → (memsB (l.take k)).length ≤ 24 * k
  | 0, _ => by simp [memsB]
  | k + 1, hk => by
    have h1 := memsB_len l h k (by omega)
    have h2 := h k (by omega)
    rw [take_getD l k (by omega), memsB_app]
    have h3 := num_len (l.getD k ([], 0)).2.toNat
    have h4 := num_len (l.getD k ([], 0)).1.length
    simp only [List.length_append, text]
    omega
end Pl

set_option maxRecDepth 100000 in
set_option maxHeartbeats 2000000 in
theorem mencode_any (v : Value) (l : List (Bs × Int)) (w : World) (hv : MS w v l) :
    Calls Tryd.prog 28 #[v] w fun e w' => e = .returned (.tuple #[.string ⟨List.toArray ((encMR l).1)⟩, .int .i64 ((encMR l).2)]) ∧ Below w.heap.size w w' := by
  generalize hr : encMR l = r
  have HR := Lib.hid hr
  clear hr
  obtain ⟨a, c, rfl⟩ := hv.form
  have hm := hv.small
  have hchk := mcheck_any _ l w hv
  have HV := Lib.hid hv
  clear hv
  cases hc : chkM l
  · rw [hc] at hchk
    have HC := Lib.hid hchk
    have HR2 : Hid (([], 50) = r) := Lib.hid (by rw [← HR.out]; simp [encMR, hc])
    clear hchk hc HR HV
    go_enter Tryd.func28, Tryd.ntmps28
    go_wp2_with fail
    refine HC.out.mono ?_
    rintro e w1 ⟨rfl, hb⟩
    unfold setI
    go_wp2_with fail
    all_goals (go_ret2; refine ⟨?_, hb⟩; rw [← HR2.out]; rfl)
  · rw [hc] at hchk
    have HC := Lib.hid hchk
    have HR2 : Hid ((encM l, 0) = r) := Lib.hid (by rw [← HR.out]; simp [encMR, hc])
    simp only [chkM, Bool.and_eq_true, decide_eq_true_eq] at hc
    have h7 := hc.1.2
    have HO := Lib.hid (okM_at l [] hc.2)
    have HB := Lib.hid (memsB_len l (fun i hi => (HO.out i hi).1))
    clear hchk hc HR
    go_enter Tryd.func28, Tryd.ntmps28
    go_wp2_with fail
    refine HC.out.mono ?_
    rintro e w1 ⟨rfl, hb⟩
    unfold setI
    go_wp2_with fail
    refine (cNum_any l.length (by omega) _).mono ?_
    rintro e w2 ⟨rfl, hb2⟩
    have hb3 := hb.trans (hb2.mono hb.size)
    go_wp2_with fail
    go_loopw [5, 24] (fun s5 s24 wr => ∃ i : Nat, i ≤ l.length ∧ s24 = .int .i64 i ∧ s5 = .string ⟨List.toArray (num l.length ++ memsB (l.take i))⟩ ∧ Below w.heap.size w wr) (fun _ s24 _ => l.length - (intOf s24).toNat)
    case atStart => exact ⟨0, by omega, rfl, by simp [memsB], hb3⟩
    case round =>
      obtain ⟨i, hi, rfl, rfl, hb⟩ := hrel
      obtain ⟨wq, h⟩ := Below.nm hb
      subst h
      by_cases hlt : i < l.length
      · obtain ⟨g, off, rfl, hg, c1, c2⟩ := (HV.out.keep hb).at i hlt
        obtain ⟨o1, o2, o3⟩ := HO.out i hlt
        have hB := HB.out i (by omega)
        have hnx : num l.length ++ memsB (l.take (i + 1)) = num l.length ++ memsB (l.take i) ++ (text (l.getD i ([], 0)).1 ++ num (l.getD i ([], 0)).2.toNat) := by
          rw [take_getD l i hlt, memsB_app, List.append_assoc]
        have hn9 := num_len l.length
        have hs9 : (num l.length ++ memsB (l.take i)).length ≤ 200 := by rw [List.length_append]; omega
        generalize hx : l.getD i ([], 0) = x at *
        obtain ⟨n, p⟩ := x
        simp only at c1 c2 hnx o1 o2 o3
        obtain ⟨m, rfl⟩ : ∃ m : Nat, p = m := ⟨p.toNat, by omega⟩
        rw [Int.toNat_natCast] at hnx
        generalize num l.length ++ memsB (l.take i) = s at *
        have hm9 := num_len m
        have ht9 : (text n).length ≤ 15 := by have := num_len n.length; simp only [text, List.length_append]; omega
        have hcat : ¬ 9223372036854775807 < (text n).length + (num m).length := by omega
        have hcat2 : ¬ 9223372036854775807 < s.length + ((text n).length + (num m).length) := by omega
        clear hx hB HB
        go_wp2_with fail
        refine (cNum_any m (by omega) _).mono ?_
        rintro e w4 ⟨rfl, hb4⟩
        have c1' : w4.cell? ⟨wq.heap.size, 0, none⟩ = some (.string ⟨List.toArray (n)⟩) := (hb4.cell (p := ⟨wq.heap.size, 0, none⟩) (by simp)).trans (by simp)
        have hb5 := (Below.allocS hb (.cells #[.string ⟨List.toArray (n)⟩, .int .i64 (m)] 63)).trans (hb4.mono (by simp; have := hb.size; omega))
        go_wp2_with fail
        refine (ctext_any n (by omega) _).mono ?_
        rintro e w5 ⟨rfl, hb6⟩
        have hb7 := hb5.trans (hb6.mono hb5.size)
        go_wp2_with fail
        exact ⟨⟨i + 1, by omega, by go_num, by rw [hnx], hb7⟩, by simp [intOf]; omega⟩
      · obtain rfl : i = l.length := by omega
        go_wp2_with fail
        all_goals (go_ret2; refine ⟨?_, hb⟩; rw [← HR2.out]; simp [encM])
theorem encM_len (l : List (Bs × Int)) (hc : chkM l = true) : (encM l).length ≤ 200 := by
  simp only [chkM, Bool.and_eq_true, decide_eq_true_eq] at hc
  have h7 := hc.1.2
  have h := memsB_len l (fun i hi => (okM_at l [] hc.2 i hi).1) l.length (by omega)
  rw [List.take_length] at h
  have hn9 := num_len l.length
  simp only [encM, List.length_append]
  omega
/-- A set's sum. -/
def dgM (l : List (Bs × Int)) : Bs := if chkM l then tagP 4 (encM l) else []

set_option maxRecDepth 100000 in
set_option maxHeartbeats 1000000 in
theorem mdigest_any (v : Value) (l : List (Bs × Int)) (w : World) (hv : MS w v l) (hk : KT w) :
    Calls Tryd.prog 34 #[v] w fun e w' => e = .returned (.string ⟨List.toArray (dgM l)⟩) ∧ Below w.heap.size w w' := by
  generalize hd : dgM l = d
  have HD := Lib.hid hd
  clear hd
  obtain ⟨a, c, rfl⟩ := hv.form
  have hm := hv.small
  have hen := mencode_any _ l w hv
  cases hc : chkM l
  · rw [show encMR l = ([], 50) from by simp [encMR, hc]] at hen
    have HZ : Hid ([] = d) := Lib.hid (by rw [← HD.out]; simp [dgM, hc])
    have HE := Lib.hid hen
    clear hen hv HD hc
    go_enter Tryd.func34, Tryd.ntmps34
    go_wp2_with fail
    refine HE.out.mono ?_
    rintro e w1 ⟨rfl, hb⟩
    go_wp2_with fail
    all_goals (go_ret; refine ⟨?_, hb⟩; rw [← HZ.out]; rfl)
  · rw [show encMR l = (encM l, 0) from by simp [encMR, hc]] at hen
    have HZ : Hid (tagP 4 (encM l) = d) := Lib.hid (by rw [← HD.out]; simp [dgM, hc])
    have hl := encM_len l hc
    have HE := Lib.hid hen
    clear hen hv HD hc
    generalize encM l = t at *
    go_enter Tryd.func34, Tryd.ntmps34
    go_wp2_with fail
    refine HE.out.mono ?_
    rintro e w1 ⟨rfl, hb⟩
    go_wp2_with fail
    refine (digsum_ok 4 (by omega) (by omega) t (by omega) _ (hk.keep hb)).mono ?_
    rintro e w2 ⟨rfl, hb2⟩
    go_wp2_with fail
    all_goals (go_ret; refine ⟨?_, hb.trans (hb2.mono hb.size)⟩; rw [← HZ.out]; rfl)

end Go.Proofs.YtmldonbmjgelnaaDoor
