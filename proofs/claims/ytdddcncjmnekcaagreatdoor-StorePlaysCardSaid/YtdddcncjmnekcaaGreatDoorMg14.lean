/- Check, Pack, Enc, Unpack, Dec. -/
import Derived.Test.YtdddcncjmnekcaaGreatDoorMg4
import Derived.Test.YtdddcncjmnekcaaGreatDoorMg13
set_option linter.unnecessarySimpa false

/- Walks of layer 8: may a node be? -/
set_option linter.unusedSimpArgs false
set_option linter.unusedVariables false
namespace Go.Proofs.YtdddcncjmnekcaaGreatDoor
open Go.RowKit Pl

set_option maxRecDepth 100000 in
set_option maxHeartbeats 4000000 in
theorem check_leaf (path val : Bs) (kid : Nat → Bs) (hp : path.length ≤ 9223372036854775807) (w : World) :
    Calls Tryz.prog 63 #[.agg (nd 1 path val kid).toArray] w fun e w' => e = .returned (.int .i64 (chkI (chk 1 path val kid))) ∧ Below w.heap.size w w' := by
  generalize hr : chkI (chk 1 path val kid) = r
  unfold chk at hr
  rw [if_pos rfl] at hr
  have HR := Lib.hid hr
  clear hr
  have hB0 := Blk.new w (nd 1 path val kid).toArray 69
  go_enter Tryz.func63, Tryz.ntmps63
  go_wp2_with (refine wpList_node rfl (.tmp 1) rfl rfl hB0 ?_)
  refine (kids_any _ path val kid _).mono ?_
  rintro e w1 ⟨va, vc, rfl, hS, hb⟩
  have hB : Blk w1 w.heap.size (nd 1 path val kid).toArray := hB0.keep hb
  have hb0 : Below w.heap.size w w1 := (Below.allocS (Below.refl _ _) _).trans (hb.mono (by simp))
  clear hb hB0
  obtain ⟨b1, b2, b3⟩ := id hB
  cases h1 : noKids kid
  · go_wp2_with (refine wpList_kidsArr rfl (.tmp 12) rfl rfl hB ?_)
    all_goals (go_ret; refine ⟨?_, hb0⟩; rw [← HR.out]; simp [*, chkI])
  · go_wp2_with (refine wpList_kidsArr rfl (.tmp 12) rfl rfl hB ?_)
    refine (npath_any path 0 hp _).mono ?_
    rintro e w2 ⟨rfl, rfl⟩
    cases h2 : pathOk path 0
    · go_wp2_with fail
      all_goals (go_ret; refine ⟨?_, hb0⟩; rw [← HR.out]; simp [*, chkI])
    · by_cases hv : val = []
      · subst hv
        go_wp2_with fail
        all_goals (go_ret; refine ⟨?_, hb0⟩; rw [← HR.out]; simp [*, chkI])
      · have hv1 : val.isEmpty = false := by simpa using hv
        clear hv
        by_cases h32 : val.length ≤ 32
        · have h32' : decide ((val.length : Int) ≤ 32) = true := by simp; omega
          go_wp2_with fail
          all_goals (go_ret; refine ⟨?_, hb0⟩; rw [← HR.out]; simp [*, chkI])
        · have h32' : decide ((val.length : Int) ≤ 32) = false := by simp; omega
          go_wp2_with fail
          all_goals (go_ret; refine ⟨?_, hb0⟩; rw [← HR.out]; simp [*, chkI])
  

set_option maxRecDepth 100000 in
set_option maxHeartbeats 4000000 in
theorem check_branch (path val : Bs) (kid : Nat → Bs) (hp : path.length ≤ 9223372036854775807) (w : World) :
    Calls Tryz.prog 63 #[.agg (nd 3 path val kid).toArray] w fun e w' => e = .returned (.int .i64 (chkI (chk 3 path val kid))) ∧ Below w.heap.size w w' := by
  generalize hr : chkI (chk 3 path val kid) = r
  unfold chk at hr
  rw [if_neg (by decide), if_neg (by decide), if_pos rfl] at hr
  have HR := Lib.hid hr
  clear hr
  have hB0 := Blk.new w (nd 3 path val kid).toArray 69
  go_enter Tryz.func63, Tryz.ntmps63
  go_wp2_with (refine wpList_node rfl (.tmp 1) rfl rfl hB0 ?_)
  refine (kids_any _ path val kid _).mono ?_
  rintro e w1 ⟨va, vc, rfl, hS, hb⟩
  have hB : Blk w1 w.heap.size (nd 3 path val kid).toArray := hB0.keep hb
  have hb0 : Below w.heap.size w w1 := (Below.allocS (Below.refl _ _) _).trans (hb.mono (by simp))
  clear hb hB0
  obtain ⟨b1, b2, b3⟩ := id hB
  have hkl := kidsTo_len kid 16
  have hkl' : ((kidsF kid).length : Int) ≤ 16 := by unfold kidsF; omega
  cases path with
  | cons pc pr =>
    by_cases hv : val = []
    · subst hv
      go_wp2_with fail
      all_goals (go_ret; refine ⟨?_, hb0⟩; rw [← HR.out]; simp [*, chkI])
    · have hv1 : val.isEmpty = false := by simpa using hv
      clear hv
      go_wp2_with fail
      all_goals (go_ret; refine ⟨?_, hb0⟩; rw [← HR.out]; simp [*, chkI])
  | nil =>
    cases h1 : all32 (kidsF kid)
    · by_cases hv : val = []
      · subst hv
        go_wp2_with fail
        refine (sums_any _ _ _ _ hS).mono ?_
        rintro e w2 ⟨rfl, rfl⟩
        rw [h1]
        go_wp2_with fail
        all_goals (go_ret; refine ⟨?_, hb0⟩; rw [← HR.out]; simp [*, chkI])
      · have hv1 : val.isEmpty = false := by simpa using hv
        clear hv
        go_wp2_with fail
        refine (sums_any _ _ _ _ hS).mono ?_
        rintro e w2 ⟨rfl, rfl⟩
        rw [h1]
        go_wp2_with fail
        all_goals (go_ret; refine ⟨?_, hb0⟩; rw [← HR.out]; simp [*, chkI])
  
    · by_cases hv : val = []
      · subst hv
        by_cases h2 : 2 ≤ (kidsF kid).length
        · have h2' : decide ((2 : Int) ≤ ((kidsF kid).length : Int)) = true := by simp; omega
          go_wp2_with fail
          refine (sums_any _ _ _ _ hS).mono ?_
          rintro e w2 ⟨rfl, rfl⟩
          rw [h1]
          go_wp2_with fail
          all_goals (go_ret; refine ⟨?_, hb0⟩; rw [← HR.out]; simp [*, chkI])
        · have h2' : decide ((2 : Int) ≤ ((kidsF kid).length : Int)) = false := by simp; omega
          go_wp2_with fail
          refine (sums_any _ _ _ _ hS).mono ?_
          rintro e w2 ⟨rfl, rfl⟩
          rw [h1]
          go_wp2_with fail
          all_goals (go_ret; refine ⟨?_, hb0⟩; rw [← HR.out]; simp [*, chkI])
      · have hv1 : val.isEmpty = false := by simpa using hv
        clear hv
        by_cases h32 : val.length ≤ 32
        · have h32' : decide ((val.length : Int) ≤ 32) = true := by simp; omega
          by_cases h2 : 2 ≤ (kidsF kid).length + 1
          · have h2' : decide ((2 : Int) ≤ ((kidsF kid).length : Int) + 1) = true := by simp; omega
            go_wp2_with fail
            refine (sums_any _ _ _ _ hS).mono ?_
            rintro e w2 ⟨rfl, rfl⟩
            rw [h1]
            go_wp2_with fail
            all_goals (go_ret; refine ⟨?_, hb0⟩; rw [← HR.out]; simp [*, chkI])
          · have h2' : decide ((2 : Int) ≤ ((kidsF kid).length : Int) + 1) = false := by simp; omega
            go_wp2_with fail
            refine (sums_any _ _ _ _ hS).mono ?_
            rintro e w2 ⟨rfl, rfl⟩
            rw [h1]
            go_wp2_with fail
            all_goals (go_ret; refine ⟨?_, hb0⟩; rw [← HR.out]; simp [*, chkI])
        · have h32' : decide ((val.length : Int) ≤ 32) = false := by simp; omega
          by_cases h2 : 2 ≤ (kidsF kid).length + 1
          · have h2' : decide ((2 : Int) ≤ ((kidsF kid).length : Int) + 1) = true := by simp; omega
            go_wp2_with fail
            refine (sums_any _ _ _ _ hS).mono ?_
            rintro e w2 ⟨rfl, rfl⟩
            rw [h1]
            go_wp2_with fail
            all_goals (go_ret; refine ⟨?_, hb0⟩; rw [← HR.out]; simp [*, chkI])
          · have h2' : decide ((2 : Int) ≤ ((kidsF kid).length : Int) + 1) = false := by simp; omega
            go_wp2_with fail
            refine (sums_any _ _ _ _ hS).mono ?_
            rintro e w2 ⟨rfl, rfl⟩
            rw [h1]
            go_wp2_with fail
            all_goals (go_ret; refine ⟨?_, hb0⟩; rw [← HR.out]; simp [*, chkI])

set_option maxRecDepth 100000 in
set_option maxHeartbeats 4000000 in
theorem check_ext (path val : Bs) (kid : Nat → Bs) (hp : path.length ≤ 9223372036854775807) (w : World) :
    Calls Tryz.prog 63 #[.agg (nd 2 path val kid).toArray] w fun e w' => e = .returned (.int .i64 (chkI (chk 2 path val kid))) ∧ Below w.heap.size w w' := by
  generalize hr : chkI (chk 2 path val kid) = r
  unfold chk at hr
  rw [if_neg (by decide), if_pos rfl] at hr
  have HR := Lib.hid hr
  clear hr
  have hB0 := Blk.new w (nd 2 path val kid).toArray 69
  go_enter Tryz.func63, Tryz.ntmps63
  go_wp2_with (refine wpList_node rfl (.tmp 1) rfl rfl hB0 ?_)
  refine (kids_any _ path val kid _).mono ?_
  rintro e w1 ⟨va, vc, rfl, hS, hb⟩
  have hB : Blk w1 w.heap.size (nd 2 path val kid).toArray := hB0.keep hb
  have hb0 : Below w.heap.size w w1 := (Below.allocS (Below.refl _ _) _).trans (hb.mono (by simp))
  clear hb hB0
  obtain ⟨b1, b2, b3⟩ := id hB
  cases h1 : oneKidX kid (kid 0)
  · go_wp2_with (refine wpList_kidsArr rfl (.tmp 34) rfl rfl hB ?_)
    all_goals (go_ret; refine ⟨?_, hb0⟩; rw [← HR.out]; simp [*, chkI])
  · go_wp2_with (refine wpList_kidsArr rfl (.tmp 34) rfl rfl hB ?_)
    refine (sums_own w.heap.size 3 1 16 [kid 0] rfl (by decide) _ (fun i hi => by
      have : i = 0 := by omega
      subst this
      simpa using b1 3)).mono ?_
    rintro e w2 ⟨rfl, rfl⟩
    cases h2 : all32 [kid 0]
    · go_wp2_with fail
      all_goals (go_ret; refine ⟨?_, hb0⟩; rw [← HR.out]; simp [*, chkI])
    · go_wp2_with fail
      refine (npath_any path 1 hp _).mono ?_
      rintro e w2 ⟨rfl, rfl⟩
      cases h3 : pathOk path 1
      · go_wp2_with fail
        all_goals (go_ret; refine ⟨?_, hb0⟩; rw [← HR.out]; simp [*, chkI])
      · by_cases hv : val = []
        · subst hv
          go_wp2_with fail
          all_goals (go_ret; refine ⟨?_, hb0⟩; rw [← HR.out]; simp [*, chkI])
        · have hv1 : val.isEmpty = false := by simpa using hv
          clear hv
          go_wp2_with fail
          all_goals (go_ret; refine ⟨?_, hb0⟩; rw [← HR.out]; simp [*, chkI])

set_option maxRecDepth 100000 in
set_option maxHeartbeats 4000000 in
theorem check_else (kind : Int) (path val : Bs) (kid : Nat → Bs) (k1 : (kind == 1) = false) (k2 : (kind == 2) = false) (k3 : (kind == 3) = false) (w : World) :
    Calls Tryz.prog 63 #[.agg (nd kind path val kid).toArray] w fun e w' => e = .returned (.int .i64 (chkI (chk kind path val kid))) ∧ Below w.heap.size w w' := by
  generalize hr : chkI (chk kind path val kid) = r
  unfold chk at hr
  rw [if_neg (by simpa using k1), if_neg (by simpa using k2), if_neg (by simpa using k3)] at hr
  have HR := Lib.hid hr
  clear hr
  have hB0 := Blk.new w (nd kind path val kid).toArray 69
  go_enter Tryz.func63, Tryz.ntmps63
  go_wp2_with (refine wpList_node rfl (.tmp 1) rfl rfl hB0 ?_)
  refine (kids_any _ path val kid _).mono ?_
  rintro e w1 ⟨va, vc, rfl, hS, hb⟩
  have hB : Blk w1 w.heap.size (nd kind path val kid).toArray := hB0.keep hb
  have hb0 : Below w.heap.size w w1 := (Below.allocS (Below.refl _ _) _).trans (hb.mono (by simp))
  clear hb hB0
  obtain ⟨b1, b2, b3⟩ := id hB
  go_wp2_with fail
  all_goals (go_ret; refine ⟨?_, hb0⟩; rw [← HR.out]; simp [*, chkI])

theorem check_any (kind : Int) (path val : Bs) (kid : Nat → Bs) (hp : path.length ≤ 9223372036854775807) (w : World) :
    Calls Tryz.prog 63 #[.agg (nd kind path val kid).toArray] w fun e w' => e = .returned (.int .i64 (chkI (chk kind path val kid))) ∧ Below w.heap.size w w' := by
  by_cases k1 : kind = 1
  · subst k1; exact check_leaf path val kid hp w
  · by_cases k2 : kind = 2
    · subst k2; exact check_ext path val kid hp w
    · by_cases k3 : kind = 3
      · subst k3; exact check_branch path val kid hp w
      · exact check_else kind path val kid (by simpa using k1) (by simpa using k2) (by simpa using k3) w

end Go.Proofs.YtdddcncjmnekcaaGreatDoor

/- Walks of layer 1: Pack, Unpack. -/
set_option linter.unusedSimpArgs false
set_option linter.unusedVariables false
namespace Go.Proofs.YtdddcncjmnekcaaGreatDoor
open Go.RowKit Pl

end Go.Proofs.YtdddcncjmnekcaaGreatDoor

/- Walks of layer 8: a node as bytes. -/
set_option linter.unusedSimpArgs false
set_option linter.unusedVariables false
namespace Go.Proofs.YtdddcncjmnekcaaGreatDoor
open Go.RowKit Pl

theorem wrap64_nat (a : Nat) (ha : a < 9223372036854775808) : wrap64 (a : Int) = a := by
  unfold wrap64
  omega
theorem flat_len (l : List Bs) (h : all32 l = true) : l.flatten.length = 32 * l.length := by
  induction l with
  | nil => rfl
  | cons a r ih =>
    simp [all32] at h ih ⊢
    rw [ih h.2, h.1]; omega

end Go.Proofs.YtdddcncjmnekcaaGreatDoor

/- Walks of layer 1: Unpack. -/
set_option linter.unusedSimpArgs false
set_option linter.unusedVariables false
namespace Go.Proofs.YtdddcncjmnekcaaGreatDoor
open Go.RowKit Pl

theorem nunpack_nil (w : World) :
    Calls Tryz.prog 80 #[.string ⟨List.toArray ([])⟩] w fun e w' => e = .returned (.tuple #[.string ⟨List.toArray ([])⟩, .bool false, .int .i64 (3)]) ∧ Below w.heap.size w w' := by
  go_enter Tryz.func80, Tryz.ntmps80
  go_wp2_with fail
  go_ret3
  exact ⟨rfl, Below.refl _ _⟩

theorem and1 (k : Nat) (h : k < 256) : bits .and .u8 (k : Int) 1 = ((k % 2 : Nat) : Int) := by
  have h' := u8_and_nat k 1 h (by omega)
  rw [Nat.and_one_is_mod] at h'
  exact h'
theorem and2 (k : Nat) (h : k < 4) : bits .and .u8 (k : Int) 2 = if k < 2 then 0 else 2 := by
  have h' := u8_and_nat k 2 (by omega) (by omega)
  have h3 : ∀ k < 4, k &&& 2 = if k < 2 then 0 else 2 := by decide
  rw [h3 k h] at h'
  rw [show ((2 : Nat) : Int) = 2 from rfl] at h'
  rw [h']
  split <;> rfl

set_option maxRecDepth 100000 in
set_option maxHeartbeats 1000000 in
theorem nunpack_cons (c : UInt8) (r : Bs) (hs : r.length ≤ 35184372088000) (w : World) :
    Calls Tryz.prog 80 #[.string ⟨List.toArray (c :: r)⟩] w fun e w' => e = .returned (.tuple #[.string ⟨List.toArray ((unpack (c :: r)).1)⟩, .bool (unpack (c :: r)).2.1, .int .i64 ((unpack (c :: r)).2.2)]) ∧ Below w.heap.size w w' := by
  have hcl := c.toNat_lt
  have h15 := u8_and15 c.toNat hcl
  generalize hk : c.toNat / 16 = k
  generalize hf : c.toNat % 16 = f at h15
  have hck : ((c.toNat : Int) / 16) = (k : Int) := by omega
  have hk16 : k < 16 := by omega
  have h1 := and1 k (by omega)
  have HU : Hid (unpack (c :: r) = if 3 < k ∨ (k % 2 = 0 ∧ f ≠ 0) then ([], false, 3)
    else ((if k % 2 = 1 then UInt8.ofNat f :: ofP r else ofP r), decide (2 ≤ k), 0)) := Lib.hid (by simp only [unpack, hk, hf])
  have hfl : f < 16 := by omega
  clear hk hf
  by_cases h3 : 3 < k
  · rw [show unpack (c :: r) = ([], false, 3) from by rw [HU.out, if_pos (.inl h3)]]
    have h3' : (3 : Int) < (k : Int) := by omega
    go_enter Tryz.func80, Tryz.ntmps80
    go_wp2_with fail
    go_quiet (fail)
    go_wp2_with fail
    all_goals go_ret3
    all_goals exact ⟨rfl, by (repeat (first | exact Below.refl _ _ | assumption | apply Below.drew | apply below_drewN | apply Below.allocS | (refine Below.setCell ?_ (by simp <;> omega) _) | (refine Below.alloc ?_ (by simp <;> omega) _) | (refine Below.trans ?_ (Below.mono (by assumption) (by simp <;> omega)))))⟩
  have h3' : ¬ (3 : Int) < (k : Int) := by omega
  have h2 := and2 k (by omega)
  have hl := ofP_len r
  by_cases ho : k % 2 = 1
  · have hcat : ¬ 9223372036854775807 < 1 + (ofP r).length := by omega
    rw [ho] at h1
    have hfn : (f : Int).toNat = f := by omega
    have HL := Lib.hid hl
    clear hl
    by_cases hk2 : k < 2
    · rw [if_pos hk2] at h2
      rw [show unpack (c :: r) = (UInt8.ofNat f :: ofP r, false, 0) from by
        rw [HU.out, if_neg (by omega), if_pos ho]; simp; omega]
      have HO := Lib.hid ho
      clear ho
      go_enter Tryz.func80, Tryz.ntmps80
      go_wp2_with fail
      go_quiet (fail)
      go_wp2_with fail
      refine (nof_any r (by omega) _).mono ?_
      rintro e w1 ⟨rfl, hb⟩
      go_wp2_with fail
      go_ret3
      exact ⟨rfl, by (repeat (first | exact Below.refl _ _ | assumption | apply Below.drew | apply below_drewN | apply Below.allocS | (refine Below.setCell ?_ (by simp <;> omega) _) | (refine Below.alloc ?_ (by simp <;> omega) _) | (refine Below.trans ?_ (Below.mono (by assumption) (by simp <;> omega)))))⟩
    · rw [if_neg hk2] at h2
      rw [show unpack (c :: r) = (UInt8.ofNat f :: ofP r, true, 0) from by
        rw [HU.out, if_neg (by omega), if_pos ho]; simp; omega]
      have HO := Lib.hid ho
      clear ho
      go_enter Tryz.func80, Tryz.ntmps80
      go_wp2_with fail
      go_quiet (fail)
      go_wp2_with fail
      refine (nof_any r (by omega) _).mono ?_
      rintro e w1 ⟨rfl, hb⟩
      go_wp2_with fail
      go_ret3
      exact ⟨rfl, by (repeat (first | exact Below.refl _ _ | assumption | apply Below.drew | apply below_drewN | apply Below.allocS | (refine Below.setCell ?_ (by simp <;> omega) _) | (refine Below.alloc ?_ (by simp <;> omega) _) | (refine Below.trans ?_ (Below.mono (by assumption) (by simp <;> omega)))))⟩
  · have ho' : k % 2 = 0 := by omega
    rw [ho'] at h1
    have HL := Lib.hid hl
    clear hl
    by_cases hf0 : f = 0
    · subst hf0
      by_cases hk2 : k < 2
      · rw [if_pos hk2] at h2
        rw [show unpack (c :: r) = (ofP r, false, 0) from by
          rw [HU.out, if_neg (by omega), if_neg ho]; simp; omega]
        clear ho ho'
        go_enter Tryz.func80, Tryz.ntmps80
        go_wp2_with fail
        go_quiet (fail)
        go_wp2_with fail
        refine (nof_any r (by omega) _).mono ?_
        rintro e w1 ⟨rfl, hb⟩
        go_wp2_with fail
        go_ret3
        exact ⟨rfl, by (repeat (first | exact Below.refl _ _ | assumption | apply Below.drew | apply below_drewN | apply Below.allocS | (refine Below.setCell ?_ (by simp <;> omega) _) | (refine Below.alloc ?_ (by simp <;> omega) _) | (refine Below.trans ?_ (Below.mono (by assumption) (by simp <;> omega)))))⟩
      · rw [if_neg hk2] at h2
        rw [show unpack (c :: r) = (ofP r, true, 0) from by
          rw [HU.out, if_neg (by omega), if_neg ho]; simp; omega]
        clear ho ho'
        go_enter Tryz.func80, Tryz.ntmps80
        go_wp2_with fail
        go_quiet (fail)
        go_wp2_with fail
        refine (nof_any r (by omega) _).mono ?_
        rintro e w1 ⟨rfl, hb⟩
        go_wp2_with fail
        go_ret3
        exact ⟨rfl, by (repeat (first | exact Below.refl _ _ | assumption | apply Below.drew | apply below_drewN | apply Below.allocS | (refine Below.setCell ?_ (by simp <;> omega) _) | (refine Below.alloc ?_ (by simp <;> omega) _) | (refine Below.trans ?_ (Below.mono (by assumption) (by simp <;> omega)))))⟩
    · rw [show unpack (c :: r) = ([], false, 3) from by rw [HU.out, if_pos (.inr ⟨ho', hf0⟩)]]
      have hf1 : ((f : Int) == 0) = false := by simpa using hf0
      have hf2 : ((f : Int) != 0) = true := by simpa using hf0
      clear ho ho'
      go_enter Tryz.func80, Tryz.ntmps80
      go_wp2_with fail
      go_quiet (fail)
      go_wp2_with fail
      all_goals go_ret3
      all_goals exact ⟨rfl, by (repeat (first | exact Below.refl _ _ | assumption | apply Below.drew | apply below_drewN | apply Below.allocS | (refine Below.setCell ?_ (by simp <;> omega) _) | (refine Below.alloc ?_ (by simp <;> omega) _) | (refine Below.trans ?_ (Below.mono (by assumption) (by simp <;> omega)))))⟩

theorem nunpack_any (s : Bs) (hs : s.length ≤ 35184372088000) (w : World) :
    Calls Tryz.prog 80 #[.string ⟨List.toArray (s)⟩] w fun e w' => e = .returned (.tuple #[.string ⟨List.toArray ((unpack s).1)⟩, .bool (unpack s).2.1, .int .i64 ((unpack s).2.2)]) ∧ Below w.heap.size w w' := by
  cases s with
  | nil => exact nunpack_nil w
  | cons c r => exact nunpack_cons c r (by simp at hs; omega) w

end Go.Proofs.YtdddcncjmnekcaaGreatDoor

/- Walks of layer 8: the node of bytes. -/
set_option linter.unusedSimpArgs false
set_option linter.unusedVariables false
namespace Go.Proofs.YtdddcncjmnekcaaGreatDoor
open Go.RowKit Pl

theorem ka_upd (kid : Nat → Bs) (k : Nat) (hk : k < 16) (x : Bs) : (ka kid).set k (.string ⟨List.toArray (x)⟩) = ka (upd kid k x) := by
  unfold ka kidL
  apply List.ext_getElem (by simp)
  intro i h1 h2
  simp [List.getElem_set, upd]
  by_cases h : k = i
  · subst h; simp
  · rw [if_neg h, if_neg (fun e => h e.symm)]
theorem nd_setk (kind : Int) (path val : Bs) (kid : Nat → Bs) (k : Nat) (hk : k < 16) (x : Bs) : (nd kind path val kid).toArray.setIfInBounds (3 + k) (.string ⟨List.toArray (x)⟩) = (nd kind path val (upd kid k x)).toArray := by
  apply Array.ext'
  rw [Array.toList_setIfInBounds]
  show List.set _ _ _ = _
  rw [Nat.add_comm]
  simp only [nd, List.set_cons_succ, ka_upd kid k hk x]
theorem nd_set0 (kind : Int) (path val : Bs) (kid : Nat → Bs) (x : Int) : (nd kind path val kid).toArray.setIfInBounds 0 (.int .i64 (x)) = (nd x path val kid).toArray := rfl
theorem nd_set1 (kind : Int) (path val : Bs) (kid : Nat → Bs) (x : Bs) : (nd kind path val kid).toArray.setIfInBounds 1 (.string ⟨List.toArray (x)⟩) = (nd kind x val kid).toArray := rfl
theorem nd_set2 (kind : Int) (path val : Bs) (kid : Nat → Bs) (x : Bs) : (nd kind path val kid).toArray.setIfInBounds 2 (.string ⟨List.toArray (x)⟩) = (nd kind path x kid).toArray := rfl

theorem branch_short (s : Bs) (kind : Int) (path val : Bs) (kid : Nat → Bs) (p q : Nat) (hpq : p ≠ q) (w : World) (hs : s.length < 2) (R : Rdr w p s 0) (B : Blk w q (nd kind path val kid).toArray) :
    Calls Tryz.prog 60 #[.pointer (some ⟨p, 0, none⟩), .pointer (some ⟨q, 0, none⟩)] w fun e w' => e = .returned (.tuple #[]) ∧ Rdr w' p s 20 ∧ Blk w' q (nd kind path val kid).toArray ∧ Mod [p, q] w w' := by
  go_enter Tryz.func60, Tryz.ntmps60
  go_wp2_with fail
  refine (bytes_any s 0 2 p _ (by omega) R).mono ?_
  rw [show mBytes s 0 2 = ([], s, 20) from by unfold mBytes; rw [if_neg (by simp), if_neg (by omega), if_pos (by omega)]]
  rintro e w1 ⟨rfl, R1, m1⟩
  go_wp2_with fail
  refine bodyPost_ret (results_none rfl _ _ _) rfl ?_
  exact ⟨rfl, R1, B.mod m1 (by simpa using fun h => hpq h.symm), m1.sub (by simp)⟩

set_option maxRecDepth 100000 in
set_option maxHeartbeats 4000000 in
theorem branch_long (a b : UInt8) (r : Bs) (kind : Int) (path val : Bs) (p q : Nat) (hpq : p ≠ q) (w : World) (R : Rdr w p (a :: b :: r) 0) (B : Blk w q (nd kind path val noK).toArray) :
    Calls Tryz.prog 60 #[.pointer (some ⟨p, 0, none⟩), .pointer (some ⟨q, 0, none⟩)] w fun e w' => e = .returned (.tuple #[]) ∧
      Rdr w' p (mText (rdKids (a.toNat * 256 + b.toNat) r 0 16).2.1 (rdKids (a.toNat * 256 + b.toNat) r 0 16).2.2 32).2.1 (mText (rdKids (a.toNat * 256 + b.toNat) r 0 16).2.1 (rdKids (a.toNat * 256 + b.toNat) r 0 16).2.2 32).2.2 ∧
      Blk w' q (nd kind path ((mText (rdKids (a.toNat * 256 + b.toNat) r 0 16).2.1 (rdKids (a.toNat * 256 + b.toNat) r 0 16).2.2 32).1) ((rdKids (a.toNat * 256 + b.toNat) r 0 16).1)).toArray ∧ Mod [p, q] w w' := by
  have hal := a.toNat_lt
  have hbl := b.toNat_lt
  have hqp : q ∉ [p] := by simpa using fun h => hpq h.symm
  generalize hset : a.toNat * 256 + b.toNat = set
  have hset2 : bits .or .i64 ((a.toNat : Int) * 256) (b.toNat : Int) = (set : Int) := by
    rw [i64_or_byte _ _ (by omega) (by omega)]; omega
  have hsl : set < 65536 := by omega
  have HS := Lib.hid hset
  clear hset
  go_enter Tryz.func60, Tryz.ntmps60
  go_wp2_with fail
  refine (bytes_any (a :: b :: r) 0 2 p _ (by omega) R).mono ?_
  rw [show mBytes (a :: b :: r) 0 2 = ([a, b], r, 0) from by unfold mBytes; rw [if_neg (by simp), if_neg (by omega), if_neg (by simp; omega)]; simp]
  rintro e w1 ⟨rfl, R1, m1⟩
  go_wp2_with fail
  go_quiet (fail)
  go_wp2_with fail
  have hB1 := B.mod m1 (by simpa using fun h => hpq h.symm)
  have hm1 : Mod [p, q] w w1 := m1.sub (by simp)
  clear m1 R B
  go_loopw [19] (fun s19 wr => ∃ k : Nat, k ≤ 16 ∧ s19 = .int .i64 k ∧ Rdr wr p (rdKids set r 0 k).2.1 (rdKids set r 0 k).2.2 ∧ Blk wr q (nd kind path val ((rdKids set r 0 k).1)).toArray ∧ Mod [p, q] w wr) (fun s19 _ => 16 - (intOf s19).toNat)
  case atStart => exact ⟨0, by omega, rfl, R1.drewN _, hB1.drewN _, hm1.drewN _⟩
  case round =>
    obtain ⟨k, hk, rfl, R2, B2, m2⟩ := hrel
    rename_i wr
    by_cases hlt : k < 16
    · have hlt' : (k : Int) < 16 := by omega
      have hand : bits .and .i64 ((set : Int) / 2 ^ (15 - k)) 1 = ((set / 2 ^ (15 - k) % 2 : Nat) : Int) := by
        have h := i64_and_nat (set / 2 ^ (15 - k)) 1 (Nat.lt_of_le_of_lt (Nat.div_le_self _ _) (by omega)) (by omega)
        rw [Nat.and_one_is_mod] at h
        simpa using h
      by_cases hbit : set / 2 ^ (15 - k) % 2 = 1
      · rw [hbit] at hand
        have HK : Hid (rdKids set r 0 (k + 1) = (upd (rdKids set r 0 k).1 k (mBytes (rdKids set r 0 k).2.1 (rdKids set r 0 k).2.2 32).1, (mBytes (rdKids set r 0 k).2.1 (rdKids set r 0 k).2.2 32).2)) := Lib.hid (by rw [rdKids, if_pos hbit])
        obtain ⟨b1, b2, b3⟩ := id B2
        generalize rdKids set r 0 k = st at *
        clear hbit
        go_wp2_with fail
        go_region_with (go_at_call 59; refine (bytes_any st.2.1 st.2.2 32 p _ (by omega) ?hR).mono ?_; (case hR => first | exact R2 | exact R2.drew | exact R2.drewN _); rintro e w' ⟨rfl, R3, m3⟩; have B3 := B2.drew.mod m3 hqp; have hck := blk_kid B3 k hlt; have c2 := B3.froz; have c3 := B3.lt)
        all_goals go_wp2_with fail
        all_goals
          have B4 := B3.set (3 + k) (.string ⟨List.toArray ((mBytes st.2.1 st.2.2 32).1)⟩)
          rw [nd_setk _ _ _ _ _ hlt] at B4
          exact ⟨⟨k + 1, by omega, by go_num, by rw [HK.out]; exact R3.other (by simpa using fun h => hpq h.symm) _, by rw [HK.out]; exact B4, (m2.drew.call m3 (by simp)).setCell (.inl (by simp)) _⟩, by simp [intOf]; omega⟩
      · have hbit0 : set / 2 ^ (15 - k) % 2 = 0 := by omega
        rw [hbit0] at hand
        have HK : Hid (rdKids set r 0 (k + 1) = rdKids set r 0 k) := Lib.hid (by rw [rdKids, if_neg hbit])
        go_wp2_with fail
        exact ⟨⟨k + 1, by omega, by go_num, by rw [HK.out]; exact R2, by rw [HK.out]; exact B2, m2⟩, by simp [intOf]; omega⟩
    · have hke : k = 16 := by omega
      subst hke
      go_wp2_with fail
      refine (rtext_any _ _ 32 p _ R2).mono ?_
      rintro e w2 ⟨rfl, R3, m3⟩
      have B3 := B2.mod m3 (by simpa using fun h => hpq h.symm)
      obtain ⟨b1, b2, b3⟩ := id B3
      go_wp2_with fail
      refine bodyPost_end (results_none rfl _ _ _) rfl ?_
      have B4 := B3.set 2 (.string ⟨List.toArray ((mText (rdKids set r 0 16).2.1 (rdKids set r 0 16).2.2 32).1)⟩)
      rw [nd_set2] at B4
      exact ⟨rfl, R3.other (by simpa using fun h => hpq h.symm) _, B4, (m2.call m3 (by simp)).setCell (.inl (by simp)) _⟩

set_option maxRecDepth 100000 in
set_option maxHeartbeats 4000000 in
theorem other_leaf (s : Bs) (c : Int) (p q : Nat) (hpq : p ≠ q) (w : World) (R : Rdr w p s c) (B : Blk w q (nd 1 ([]) ([]) noK).toArray) :
    Calls Tryz.prog 61 #[.pointer (some ⟨p, 0, none⟩), .pointer (some ⟨q, 0, none⟩)] w fun e w' => e = .returned (.bool (decide ((unpack (mText s c 16).1).2.2 = 0) && (unpack (mText s c 16).1).2.1)) ∧
      Rdr w' p (mText (mText s c 16).2.1 (mText s c 16).2.2 32).2.1 (mText (mText s c 16).2.1 (mText s c 16).2.2 32).2.2 ∧
      Blk w' q (nd 1 ((unpack (mText s c 16).1).1) ((mText (mText s c 16).2.1 (mText s c 16).2.2 32).1) noK).toArray ∧ Mod [p, q] w w' := by
  have hqp : q ∉ [p] := by simpa using fun h => hpq h.symm
  have hml := mText_len s c 16 (by omega)
  generalize hm : mText s c 16 = m at *
  generalize hu : unpack m.1 = u at *
  generalize ht : mText m.2.1 m.2.2 32 = t at *
  have HM := Lib.hid hm
  have HU := Lib.hid hu
  have HT := Lib.hid ht
  clear hm hu ht
  obtain ⟨u1, u2, u3⟩ := u
  go_enter Tryz.func61, Tryz.ntmps61
  go_wp2_with fail
  refine (rtext_any s c 16 p _ R).mono ?_
  rw [HM.out]
  rintro e w1 ⟨rfl, R1, m1⟩
  have B1 := B.mod m1 hqp
  go_wp2_with fail
  refine (nunpack_any m.1 (by omega) _).mono ?_
  rw [HU.out]
  rintro e w2 ⟨rfl, hb⟩
  have B2 := B1.keep hb
  have R2 := R1.mod (Mod.of_below (l := []) hb) (by simp)
  have m2 : Mod [p, q] w w2 := (m1.sub (by simp)).trans (Mod.of_below hb)
  clear R R1 B B1 m1 hb
  have B3 := B2.set 1 (.string ⟨List.toArray (u1)⟩)
  rw [nd_set1] at B3
  obtain ⟨b1, b2, b3⟩ := id B2
  go_wp2_with fail
  refine (rtext_any m.2.1 m.2.2 32 p _ (R2.other (by simpa using fun h => hpq h.symm) _)).mono ?_
  rw [HT.out]
  rintro e w3 ⟨rfl, R3, m3⟩
  have B4 := B3.mod m3 hqp
  have B5 := B4.set 2 (.string ⟨List.toArray (t.1)⟩)
  rw [nd_set2] at B5
  clear b1 b2 b3 hml
  obtain ⟨b1, b2, b3⟩ := id B4
  by_cases h0 : u3 = 0
  · subst h0
    cases u2
    all_goals
      go_wp2_with fail
      go_ret
      exact ⟨rfl, R3.other (by simpa using fun h => hpq h.symm) _, B5, ((m2.setCell (.inl (by simp)) _).call m3 (by simp)).setCell (.inl (by simp)) _⟩
  · have h1 : (u3 == 0) = false := by simpa using h0
    go_wp2_with fail
    go_ret
    exact ⟨by simp [h0], R3.other (by simpa using fun h => hpq h.symm) _, B5, ((m2.setCell (.inl (by simp)) _).call m3 (by simp)).setCell (.inl (by simp)) _⟩

set_option maxRecDepth 100000 in
set_option maxHeartbeats 4000000 in
theorem other_ext (s : Bs) (c kind : Int) (hk : (kind == 1) = false) (p q : Nat) (hpq : p ≠ q) (w : World) (R : Rdr w p s c) (B : Blk w q (nd kind ([]) ([]) noK).toArray) :
    Calls Tryz.prog 61 #[.pointer (some ⟨p, 0, none⟩), .pointer (some ⟨q, 0, none⟩)] w fun e w' => e = .returned (.bool (decide ((unpack (mText s c 16).1).2.2 = 0) && !(unpack (mText s c 16).1).2.1)) ∧
      Rdr w' p (mBytes (mText s c 16).2.1 (mText s c 16).2.2 32).2.1 (mBytes (mText s c 16).2.1 (mText s c 16).2.2 32).2.2 ∧
      Blk w' q (nd kind ((unpack (mText s c 16).1).1) ([]) ((upd noK 0 (mBytes (mText s c 16).2.1 (mText s c 16).2.2 32).1))).toArray ∧ Mod [p, q] w w' := by
  have hqp : q ∉ [p] := by simpa using fun h => hpq h.symm
  have hml := mText_len s c 16 (by omega)
  generalize hm : mText s c 16 = m at *
  generalize hu : unpack m.1 = u at *
  generalize ht : mBytes m.2.1 m.2.2 32 = t at *
  have HM := Lib.hid hm
  have HU := Lib.hid hu
  have HT := Lib.hid ht
  clear hm hu ht
  obtain ⟨u1, u2, u3⟩ := u
  go_enter Tryz.func61, Tryz.ntmps61
  go_wp2_with fail
  refine (rtext_any s c 16 p _ R).mono ?_
  rw [HM.out]
  rintro e w1 ⟨rfl, R1, m1⟩
  have B1 := B.mod m1 hqp
  go_wp2_with fail
  refine (nunpack_any m.1 (by omega) _).mono ?_
  rw [HU.out]
  rintro e w2 ⟨rfl, hb⟩
  have B2 := B1.keep hb
  have R2 := R1.mod (Mod.of_below (l := []) hb) (by simp)
  have m2 : Mod [p, q] w w2 := (m1.sub (by simp)).trans (Mod.of_below hb)
  clear R R1 B B1 m1 hb
  have B3 := B2.set 1 (.string ⟨List.toArray (u1)⟩)
  rw [nd_set1] at B3
  have R3 := R2.other (x := ⟨q, 1, none⟩) (by simpa using fun h => hpq h.symm) (.string ⟨List.toArray (u1)⟩)
  obtain ⟨b1, b2, b3⟩ := id B2
  clear hml
  go_wp2_with fail
  have m3 := m2.setCell (p := ⟨q, 1, none⟩) (.inl (by simp)) (.string ⟨List.toArray (u1)⟩)
  generalize w2.setCell ⟨q, 1, none⟩ (.string ⟨List.toArray (u1)⟩) = w3 at *
  clear b1 b2 b3 B2 R2 m2
  obtain ⟨b1, b2, b3⟩ := id B3
  go_region_with (go_at_call 59; refine (bytes_any m.2.1 m.2.2 32 p _ (by omega) ?hR).mono ?_; (case hR => first | exact R3 | exact R3.drew | exact R3.drewN _); rw [HT.out]; rintro e w' ⟨rfl, R4, m4⟩; have B4 := B3.drew.mod m4 hqp; obtain ⟨c1, c2, c3⟩ := id B4)
  all_goals
    have B5 := B4.set (3 + 0) (.string ⟨List.toArray (t.1)⟩)
    rw [nd_setk _ _ _ _ _ (by omega)] at B5
    by_cases h0 : u3 = 0
    · subst h0
      cases u2
      all_goals
        go_wp2_with fail
        go_ret
        exact ⟨rfl, R4.other (by simpa using fun h => hpq h.symm) _, B5, (m3.drew.call m4 (by simp)).setCell (.inl (by simp)) _⟩
    · have h1 : (u3 == 0) = false := by simpa using h0
      go_wp2_with fail
      go_ret
      exact ⟨by simp [h0], R4.other (by simpa using fun h => hpq h.symm) _, B5, (m3.drew.call m4 (by simp)).setCell (.inl (by simp)) _⟩

end Go.Proofs.YtdddcncjmnekcaaGreatDoor
