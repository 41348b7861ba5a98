/- Walks of layer 8: may a node be? -/
import Derived.Test.YtmldonbmjgelnaaDoorNodeC
set_option linter.unusedSimpArgs false
set_option linter.unusedVariables false
namespace Go.Proofs.YtmldonbmjgelnaaDoor
open Go.RowKit Pl

set_option maxRecDepth 100000 in
set_option maxHeartbeats 4000000 in
theorem check_leaf (path val : Bs) (kid : Nat → Bs) (hp : path.length ≤ 9223372036854775807) (w : World) :
    Calls Tryd.prog 17 #[.agg (nd 1 path val kid).toArray] w fun e w' => e = .returned (.int .i64 (chkI (chk 1 path val kid))) ∧ Below w.heap.size w w' := by
  generalize hr : chkI (chk 1 path val kid) = r
  unfold chk at hr
  rw [if_pos rfl] at hr
  have HR := Lib.hid hr
  clear hr
  have hB0 := Blk.new w (nd 1 path val kid).toArray 24
  go_enter Tryd.func17, Tryd.ntmps17
  go_wp2_with (refine wpList_node rfl (.tmp 1) rfl rfl hB0 ?_)
  refine (kids_any _ path val kid _).mono ?_
  rintro e w1 ⟨va, vc, rfl, hS, hb⟩
  have hB : Blk w1 w.heap.size (nd 1 path val kid).toArray := hB0.keep hb
  have hb0 : Below w.heap.size w w1 := (Below.allocS (Below.refl _ _) _).trans (hb.mono (by simp))
  clear hb hB0
  obtain ⟨b1, b2, b3⟩ := id hB
  cases h1 : noKids kid
  · go_wp2_with (refine wpList_kidsArr rfl (.tmp 12) rfl rfl hB ?_)
    all_goals (go_ret; refine ⟨?_, hb0⟩; rw [← HR.out]; simp [*, chkI])
  · go_wp2_with (refine wpList_kidsArr rfl (.tmp 12) rfl rfl hB ?_)
    refine (npath_any path 0 hp _).mono ?_
    rintro e w2 ⟨rfl, rfl⟩
    cases h2 : pathOk path 0
    · go_wp2_with fail
      all_goals (go_ret; refine ⟨?_, hb0⟩; rw [← HR.out]; simp [*, chkI])
    · by_cases hv : val = []
      · subst hv
        go_wp2_with fail
        all_goals (go_ret; refine ⟨?_, hb0⟩; rw [← HR.out]; simp [*, chkI])
      · have hv1 : val.isEmpty = false := by simpa using hv
        clear hv
        by_cases h32 : val.length ≤ 32
        · have h32' : decide ((val.length : Int) ≤ 32) = true := by simp; omega
          go_wp2_with fail
          all_goals (go_ret; refine ⟨?_, hb0⟩; rw [← HR.out]; simp [*, chkI])
        · have h32' : decide ((val.length : Int) ≤ 32) = false := by simp; omega
          go_wp2_with fail
          all_goals (go_ret; refine ⟨?_, hb0⟩; rw [← HR.out]; simp [*, chkI])
  

set_option maxRecDepth 100000 in
set_option maxHeartbeats 4000000 in
theorem check_branch (path val : Bs) (kid : Nat → Bs) (hp : path.length ≤ 9223372036854775807) (w : World) :
    Calls Tryd.prog 17 #[.agg (nd 3 path val kid).toArray] w fun e w' => e = .returned (.int .i64 (chkI (chk 3 path val kid))) ∧ Below w.heap.size w w' := by
  generalize hr : chkI (chk 3 path val kid) = r
  unfold chk at hr
  rw [if_neg (by decide), if_neg (by decide), if_pos rfl] at hr
  have HR := Lib.hid hr
  clear hr
  have hB0 := Blk.new w (nd 3 path val kid).toArray 24
  go_enter Tryd.func17, Tryd.ntmps17
  go_wp2_with (refine wpList_node rfl (.tmp 1) rfl rfl hB0 ?_)
  refine (kids_any _ path val kid _).mono ?_
  rintro e w1 ⟨va, vc, rfl, hS, hb⟩
  have hB : Blk w1 w.heap.size (nd 3 path val kid).toArray := hB0.keep hb
  have hb0 : Below w.heap.size w w1 := (Below.allocS (Below.refl _ _) _).trans (hb.mono (by simp))
  clear hb hB0
  obtain ⟨b1, b2, b3⟩ := id hB
  have hkl := kidsTo_len kid 16
  have hkl' : ((kidsF kid).length : Int) ≤ 16 := by unfold kidsF; omega
  cases path with
  | cons pc pr =>
    by_cases hv : val = []
    · subst hv
      go_wp2_with fail
      all_goals (go_ret; refine ⟨?_, hb0⟩; rw [← HR.out]; simp [*, chkI])
    · have hv1 : val.isEmpty = false := by simpa using hv
      clear hv
      go_wp2_with fail
      all_goals (go_ret; refine ⟨?_, hb0⟩; rw [← HR.out]; simp [*, chkI])
  | nil =>
    cases h1 : all32 (kidsF kid)
    · by_cases hv : val = []
      · subst hv
        go_wp2_with fail
        refine (sums_any _ _ _ _ hS).mono ?_
        rintro e w2 ⟨rfl, rfl⟩
        rw [h1]
        go_wp2_with fail
        all_goals (go_ret; refine ⟨?_, hb0⟩; rw [← HR.out]; simp [*, chkI])
      · have hv1 : val.isEmpty = false := by simpa using hv
        clear hv
        go_wp2_with fail
        refine (sums_any _ _ _ _ hS).mono ?_
        rintro e w2 ⟨rfl, rfl⟩
        rw [h1]
        go_wp2_with fail
        all_goals (go_ret; refine ⟨?_, hb0⟩; rw [← HR.out]; simp [*, chkI])
  
    · by_cases hv : val = []
      · subst hv
        by_cases h2 : 2 ≤ (kidsF kid).length
        · have h2' : decide ((2 : Int) ≤ ((kidsF kid).length : Int)) = true := by simp; omega
          go_wp2_with fail
          refine (sums_any _ _ _ _ hS).mono ?_
          rintro e w2 ⟨rfl, rfl⟩
          rw [h1]
          go_wp2_with fail
          all_goals (go_ret; refine ⟨?_, hb0⟩; rw [← HR.out]; simp [*, chkI])
        · have h2' : decide ((2 : Int) ≤ ((kidsF kid).length : Int)) = false := by simp; omega
          go_wp2_with fail
          refine (sums_any _ _ _ _ hS).mono ?_
          rintro e w2 ⟨rfl, rfl⟩
          rw [h1]
          go_wp2_with fail
          all_goals (go_ret; refine ⟨?_, hb0⟩; rw [← HR.out]; simp [*, chkI])
      · have hv1 : val.isEmpty = false := by simpa using hv
        clear hv
        by_cases h32 : val.length ≤ 32
        · have h32' : decide ((val.length : Int) ≤ 32) = true := by simp; omega
          by_cases h2 : 2 ≤ (kidsF kid).length + 1
          · have h2' : decide ((2 : Int) ≤ ((kidsF kid).length : Int) + 1) = true := by simp; omega
            go_wp2_with fail
            refine (sums_any _ _ _ _ hS).mono ?_
            rintro e w2 ⟨rfl, rfl⟩
            rw [h1]
            go_wp2_with fail
            all_goals (go_ret; refine ⟨?_, hb0⟩; rw [← HR.out]; simp [*, chkI])
          · have h2' : decide ((2 : Int) ≤ ((kidsF kid).length : Int) + 1) = false := by simp; omega
            go_wp2_with fail
            refine (sums_any _ _ _ _ hS).mono ?_
            rintro e w2 ⟨rfl, rfl⟩
            rw [h1]
            go_wp2_with fail
            all_goals (go_ret; refine ⟨?_, hb0⟩; rw [← HR.out]; simp [*, chkI])
        · have h32' : decide ((val.length : Int) ≤ 32) = false := by simp; omega
          by_cases h2 : 2 ≤ (kidsF kid).length + 1
          · have h2' : decide ((2 : Int) ≤ ((kidsF kid).length : Int) + 1) = true := by simp; omega
            go_wp2_with fail
            refine (sums_any _ _ _ _ hS).mono ?_
            rintro e w2 ⟨rfl, rfl⟩
            rw [h1]
            go_wp2_with fail
            all_goals (go_ret; refine ⟨?_, hb0⟩; rw [← HR.out]; simp [*, chkI])
          · have h2' : decide ((2 : Int) ≤ ((kidsF kid).length : Int) + 1) = false := by simp; omega
            go_wp2_with fail
            refine (sums_any _ _ _ _ hS).mono ?_
            rintro e w2 ⟨rfl, rfl⟩
            rw [h1]
            go_wp2_with fail
            all_goals (go_ret; refine ⟨?_, hb0⟩; rw [← HR.out]; simp [*, chkI])

set_option maxRecDepth 100000 in
set_option maxHeartbeats 4000000 in
theorem check_ext (path val : Bs) (kid : Nat → Bs) (hp : path.length ≤ 9223372036854775807) (w : World) :
    Calls Tryd.prog 17 #[.agg (nd 2 path val kid).toArray] w fun e w' => e = .returned (.int .i64 (chkI (chk 2 path val kid))) ∧ Below w.heap.size w w' := by
  generalize hr : chkI (chk 2 path val kid) = r
  unfold chk at hr
  rw [if_neg (by decide), if_pos rfl] at hr
  have HR := Lib.hid hr
  clear hr
  have hB0 := Blk.new w (nd 2 path val kid).toArray 24
  go_enter Tryd.func17, Tryd.ntmps17
  go_wp2_with (refine wpList_node rfl (.tmp 1) rfl rfl hB0 ?_)
  refine (kids_any _ path val kid _).mono ?_
  rintro e w1 ⟨va, vc, rfl, hS, hb⟩
  have hB : Blk w1 w.heap.size (nd 2 path val kid).toArray := hB0.keep hb
  have hb0 : Below w.heap.size w w1 := (Below.allocS (Below.refl _ _) _).trans (hb.mono (by simp))
  clear hb hB0
  obtain ⟨b1, b2, b3⟩ := id hB
  cases h1 : oneKidX kid (kid 0)
  · go_wp2_with (refine wpList_kidsArr rfl (.tmp 34) rfl rfl hB ?_)
    all_goals (go_ret; refine ⟨?_, hb0⟩; rw [← HR.out]; simp [*, chkI])
  · go_wp2_with (refine wpList_kidsArr rfl (.tmp 34) rfl rfl hB ?_)
    refine (sums_own w.heap.size 3 1 16 [kid 0] rfl (by decide) _ (fun i hi => by
      have : i = 0 := by omega
      subst this
      simpa using b1 3)).mono ?_
    rintro e w2 ⟨rfl, rfl⟩
    cases h2 : all32 [kid 0]
    · go_wp2_with fail
      all_goals (go_ret; refine ⟨?_, hb0⟩; rw [← HR.out]; simp [*, chkI])
    · go_wp2_with fail
      refine (npath_any path 1 hp _).mono ?_
      rintro e w2 ⟨rfl, rfl⟩
      cases h3 : pathOk path 1
      · go_wp2_with fail
        all_goals (go_ret; refine ⟨?_, hb0⟩; rw [← HR.out]; simp [*, chkI])
      · by_cases hv : val = []
        · subst hv
          go_wp2_with fail
          all_goals (go_ret; refine ⟨?_, hb0⟩; rw [← HR.out]; simp [*, chkI])
        · have hv1 : val.isEmpty = false := by simpa using hv
          clear hv
          go_wp2_with fail
          all_goals (go_ret; refine ⟨?_, hb0⟩; rw [← HR.out]; simp [*, chkI])

set_option maxRecDepth 100000 in
set_option maxHeartbeats 4000000 in
theorem check_else (kind : Int) (path val : Bs) (kid : Nat → Bs) (k1 : (kind == 1) = false) (k2 : (kind == 2) = false) (k3 : (kind == 3) = false) (w : World) :
    Calls Tryd.prog 17 #[.agg (nd kind path val kid).toArray] w fun e w' => e = .returned (.int .i64 (chkI (chk kind path val kid))) ∧ Below w.heap.size w w' := by
  generalize hr : chkI (chk kind path val kid) = r
  unfold chk at hr
  rw [if_neg (by simpa using k1), if_neg (by simpa using k2), if_neg (by simpa using k3)] at hr
  have HR := Lib.hid hr
  clear hr
  have hB0 := Blk.new w (nd kind path val kid).toArray 24
  go_enter Tryd.func17, Tryd.ntmps17
  go_wp2_with (refine wpList_node rfl (.tmp 1) rfl rfl hB0 ?_)
  refine (kids_any _ path val kid _).mono ?_
  rintro e w1 ⟨va, vc, rfl, hS, hb⟩
  have hB : Blk w1 w.heap.size (nd kind path val kid).toArray := hB0.keep hb
  have hb0 : Below w.heap.size w w1 := (Below.allocS (Below.refl _ _) _).trans (hb.mono (by simp))
  clear hb hB0
  obtain ⟨b1, b2, b3⟩ := id hB
  go_wp2_with fail
  all_goals (go_ret; refine ⟨?_, hb0⟩; rw [← HR.out]; simp [*, chkI])

theorem check_any (kind : Int) (path val : Bs) (kid : Nat → Bs) (hp : path.length ≤ 9223372036854775807) (w : World) :
    Calls Tryd.prog 17 #[.agg (nd kind path val kid).toArray] w fun e w' => e = .returned (.int .i64 (chkI (chk kind path val kid))) ∧ Below w.heap.size w w' := by
  by_cases k1 : kind = 1
  · subst k1; exact check_leaf path val kid hp w
  · by_cases k2 : kind = 2
    · subst k2; exact check_ext path val kid hp w
    · by_cases k3 : kind = 3
      · subst k3; exact check_branch path val kid hp w
      · exact check_else kind path val kid (by simpa using k1) (by simpa using k2) (by simpa using k3) w

end Go.Proofs.YtmldonbmjgelnaaDoor
