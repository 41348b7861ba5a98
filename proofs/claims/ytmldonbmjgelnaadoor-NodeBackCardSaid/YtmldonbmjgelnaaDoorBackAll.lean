/- Walk of the statement NodeBack. -/
import Derived.Test.YtmldonbmjgelnaaDoorNodeW
import Derived.Test.YtmldonbmjgelnaaDoorWorks8
import Derived.Test.YtmldonbmjgelnaaDoorEqNode
import Derived.Test.YtmldonbmjgelnaaDoorDecLaw
set_option linter.unusedSimpArgs false
set_option linter.unusedVariables false
namespace Go.Proofs.YtmldonbmjgelnaaDoor
open Go.RowKit Pl

theorem eqNd_cut (k : Int) (p v : Bs) (kid : Nat → Bs) : eqNd k p v (cut kid 16) k p v kid = true := by
  have : kidL (cut kid 16) = kidL kid := kidL_of (fun i hi => by simp [cut, hi])
  simp [eqNd, sameL, this]
theorem eqNd_self (k : Int) (p v : Bs) (kid : Nat → Bs) : eqNd k p v kid k p v kid = true := by simp [eqNd, sameL]
theorem chk_path (k : Int) (p v : Bs) (kid : Nat → Bs) (h : chk k p v kid = true) : p.length ≤ 16 := by
  unfold chk at h
  split at h
  · simp [pathOk] at h; omega
  · split at h
    · simp [pathOk] at h; omega
    · split at h
      · simp at h
        rw [h.1.1.1]; simp
      · cases h
@[go_sem high] theorem eq_zero (d : Nat) (w : World) :
    (Op.equalIn (d + 3) 24 (.agg (nd 0 ([]) ([]) noK).toArray) (.agg #[.int .i64 (0), .string ⟨List.toArray ([])⟩, .string ⟨List.toArray ([])⟩, .string ⟨List.toArray ([])⟩, .string ⟨List.toArray ([])⟩, .string ⟨List.toArray ([])⟩, .string ⟨List.toArray ([])⟩, .string ⟨List.toArray ([])⟩, .string ⟨List.toArray ([])⟩, .string ⟨List.toArray ([])⟩, .string ⟨List.toArray ([])⟩, .string ⟨List.toArray ([])⟩, .string ⟨List.toArray ([])⟩, .string ⟨List.toArray ([])⟩, .string ⟨List.toArray ([])⟩, .string ⟨List.toArray ([])⟩, .string ⟨List.toArray ([])⟩, .string ⟨List.toArray ([])⟩, .string ⟨List.toArray ([])⟩])).run Tryd.prog w = .ok true w := by
  have h := eq_node 0 [] [] noK 0 [] [] noK d w
  rw [eqNd_self] at h
  exact h

set_option maxRecDepth 100000 in
set_option maxHeartbeats 4000000 in
theorem nodeback_any (k : Int) (p v : Bs) (kid : Nat → Bs) (s more : Bs) (w : World) (hk : KT w) :
    Calls Tryd.prog 3 #[.agg (nd k p v kid).toArray, .string ⟨List.toArray (s)⟩, .string ⟨List.toArray (more)⟩] w fun e w' => e = .returned (.bool true) ∧ Below w.heap.size w w' := by
  have hN0 := Blk.new w (nd k p v kid).toArray 24
  have hb0 : Below w.heap.size w (w.alloc (.cells (nd k p v kid).toArray 24)) := Below.allocS (Below.refl _ _) _
  go_enter Tryd.func3, Tryd.ntmps3
  go_wp2_with fail
  refine (works8_any _).mono ?_
  rintro e w1 ⟨rfl, hb⟩
  have N1 := hN0.keep hb
  have hb1 := hb0.trans (hb.mono hb0.size)
  clear hN0 hb0 hb
  go_wp2_with (refine wpList_node rfl (.tmp 3) rfl rfl N1 ?_)
  refine (big_any k p v kid _).mono ?_
  rintro e w2 ⟨rfl, hb⟩
  have N2 := N1.keep hb
  have hb2 := hb1.trans (hb.mono hb1.size)
  clear N1 hb1 hb
  cases hB1 : bigB p v kid
  · have hp := (big_no hB1).1
    by_cases hl : 2000 < s.length
    · have hd : decide ((2000 : Int) < (s.length : Int)) = true := by simp; omega
      go_wp2_with fail
      all_goals (go_ret; exact ⟨rfl, hb2⟩)
    · have hd : decide ((2000 : Int) < (s.length : Int)) = false := by simp; omega
      by_cases hm : 100 < more.length
      · have hd2 : decide ((100 : Int) < (more.length : Int)) = true := by simp; omega
        go_wp2_with fail
        all_goals (go_ret; exact ⟨rfl, hb2⟩)
      · have hd2 : decide ((100 : Int) < (more.length : Int)) = false := by simp; omega
        go_wp2_with fail
        have hdec := decode_any s (by omega)
        have hfin : ∃ x : Nd × Int, dec s = x ∧ ((chk x.1.kind x.1.path x.1.val x.1.kid = true ∧ enc x.1.kind x.1.path x.1.val x.1.kid = s ∧ x.2 = 0) ∨ x = (ndZ, 80)) := by
          rcases dec_two s with ⟨y, h1, h2, h3⟩ | h1
          · exact ⟨_, h1, .inl ⟨h2, h3, rfl⟩⟩
          · exact ⟨_, h1, .inr rfl⟩
        obtain ⟨x, hx, hcase⟩ := hfin
        rw [hx] at hdec
        clear hx
        have HD := Lib.hid hdec
        clear hdec
        rcases hcase with ⟨hc1, he1, h0⟩ | h0
        focus
          obtain ⟨⟨kd, pa, va, kk⟩, code⟩ := x
          simp only at hc1 he1 h0 HD
          subst h0
          have hpa := chk_path kd pa va kk hc1
          have henc := encode_any kd pa va kk (by omega)
          rw [show encR kd pa va kk = (s, 0) from by simp [encR, hc1, he1]] at henc
          have hchk := check_any kd pa va kk (by omega)
          rw [show chkI (chk kd pa va kk) = 0 from by simp [chkI, hc1]] at hchk
          clear hc1 he1
          have HE := Lib.hid henc
          have HC := Lib.hid hchk
          clear henc hchk
          refine (HD.out _).mono ?_
          rintro e w3 ⟨rfl, hb⟩
          have N3 := (N2.keep hb).alloc (.cells #[.int .i64 (0), .string ⟨List.toArray ([])⟩, .string ⟨List.toArray ([])⟩, .string ⟨List.toArray ([])⟩, .string ⟨List.toArray ([])⟩, .string ⟨List.toArray ([])⟩, .string ⟨List.toArray ([])⟩, .string ⟨List.toArray ([])⟩, .string ⟨List.toArray ([])⟩, .string ⟨List.toArray ([])⟩, .string ⟨List.toArray ([])⟩, .string ⟨List.toArray ([])⟩, .string ⟨List.toArray ([])⟩, .string ⟨List.toArray ([])⟩, .string ⟨List.toArray ([])⟩, .string ⟨List.toArray ([])⟩, .string ⟨List.toArray ([])⟩, .string ⟨List.toArray ([])⟩, .string ⟨List.toArray ([])⟩] 24)
          have hn3 := (N2.keep hb).lt
          have hb3 := hb2.trans (hb.mono hb2.size)
          clear N2 hb2 hb
          go_wp2_with (first
            | (refine wpList_nodeStore rfl rfl (.tmp 7) (.tmp 36) rfl rfl (kind := kd) (path := pa) (val := va) (kid := kk) rfl (k2 := 0) (p2 := []) (v2 := []) (kid2 := noK) (Blk.new' (by simp)) ?_; intro wN M mN; have N4 := N3.mod mN (by simp; omega))
            | (refine wpList_node rfl (.tmp 7) rfl rfl (kind := kd) (path := pa) (val := va) (kid := kk) (by assumption) ?_))
          have mN := (by assumption : Mod [w3.heap.size] _ _)
          have hb4 := Below.mod (Below.allocS hb3 (.cells #[.int .i64 (0), .string ⟨List.toArray ([])⟩, .string ⟨List.toArray ([])⟩, .string ⟨List.toArray ([])⟩, .string ⟨List.toArray ([])⟩, .string ⟨List.toArray ([])⟩, .string ⟨List.toArray ([])⟩, .string ⟨List.toArray ([])⟩, .string ⟨List.toArray ([])⟩, .string ⟨List.toArray ([])⟩, .string ⟨List.toArray ([])⟩, .string ⟨List.toArray ([])⟩, .string ⟨List.toArray ([])⟩, .string ⟨List.toArray ([])⟩, .string ⟨List.toArray ([])⟩, .string ⟨List.toArray ([])⟩, .string ⟨List.toArray ([])⟩, .string ⟨List.toArray ([])⟩, .string ⟨List.toArray ([])⟩] 24)) mN (by simp; have := hb3.size; omega) (by simp; have := hb3.size; omega)
          have M4 := (by assumption : Blk _ w3.heap.size (nd kd pa va kk).toArray)
          have N4 := N3.mod mN (by simp; omega)
          clear mN hb3 N3
          refine (HE.out _).mono ?_
          rintro e w5 ⟨rfl, hb⟩
          have N5 := N4.keep hb
          have M5 := M4.keep hb
          have hb5 := hb4.trans (hb.mono hb4.size)
          clear hb4 N4 M4 hb
          go_wp2_with (refine wpList_nodeG ?hw (.tmp 7) rfl rfl M5 ?_; (case hw => rfl))
          refine (HC.out _).mono ?_
          rintro e w6 ⟨rfl, hb⟩
          have N6 := N5.keep hb
          have hb6 := hb5.trans (hb.mono hb5.size)
          clear hb5 N5 M5 hb HE HC HD
          go_wp2_with (refine wpList_node rfl (.tmp 3) rfl rfl N6 ?_)
        rotate_left
        focus
          subst h0
          have HZ : ∀ (w : World), Calls Tryd.prog 15 #[.string ⟨List.toArray (s)⟩] w fun e w' => e = .returned (.tuple #[.agg (nd 0 ([]) ([]) noK).toArray, .int .i64 (80)]) ∧ Below w.heap.size w w' := HD.out
          clear HD
          refine (HZ _).mono ?_
          rintro e w3 ⟨rfl, hb⟩
          have N3 := (N2.keep hb).alloc (.cells #[.int .i64 (0), .string ⟨List.toArray ([])⟩, .string ⟨List.toArray ([])⟩, .string ⟨List.toArray ([])⟩, .string ⟨List.toArray ([])⟩, .string ⟨List.toArray ([])⟩, .string ⟨List.toArray ([])⟩, .string ⟨List.toArray ([])⟩, .string ⟨List.toArray ([])⟩, .string ⟨List.toArray ([])⟩, .string ⟨List.toArray ([])⟩, .string ⟨List.toArray ([])⟩, .string ⟨List.toArray ([])⟩, .string ⟨List.toArray ([])⟩, .string ⟨List.toArray ([])⟩, .string ⟨List.toArray ([])⟩, .string ⟨List.toArray ([])⟩, .string ⟨List.toArray ([])⟩, .string ⟨List.toArray ([])⟩] 24)
          have hn3 := (N2.keep hb).lt
          have hb3 := hb2.trans (hb.mono hb2.size)
          clear N2 hb2 hb HZ
          go_wp2_with (first
            | (refine wpList_nodeStore rfl rfl (.tmp 7) (.tmp 36) rfl rfl (kind := 0) (path := []) (val := []) (kid := noK) rfl (k2 := 0) (p2 := []) (v2 := []) (kid2 := noK) (Blk.new' (by simp)) ?_; intro wN M mN; have N4 := N3.mod mN (by simp; omega))
            | (refine wpList_nodeG ?hw (.tmp 7) rfl rfl (kind := 0) (path := []) (val := []) (kid := noK) (by assumption) ?_; (case hw => rfl))
            | (refine wpList_node rfl (.tmp 3) rfl rfl (kind := k) (path := p) (val := v) (kid := kid) (by assumption) ?_))
          have mN := (by assumption : Mod [w3.heap.size] _ _)
          have hb6 := Below.mod (Below.allocS hb3 (.cells #[.int .i64 (0), .string ⟨List.toArray ([])⟩, .string ⟨List.toArray ([])⟩, .string ⟨List.toArray ([])⟩, .string ⟨List.toArray ([])⟩, .string ⟨List.toArray ([])⟩, .string ⟨List.toArray ([])⟩, .string ⟨List.toArray ([])⟩, .string ⟨List.toArray ([])⟩, .string ⟨List.toArray ([])⟩, .string ⟨List.toArray ([])⟩, .string ⟨List.toArray ([])⟩, .string ⟨List.toArray ([])⟩, .string ⟨List.toArray ([])⟩, .string ⟨List.toArray ([])⟩, .string ⟨List.toArray ([])⟩, .string ⟨List.toArray ([])⟩, .string ⟨List.toArray ([])⟩, .string ⟨List.toArray ([])⟩] 24)) mN (by simp; have := hb3.size; omega) (by simp; have := hb3.size; omega)
          have N6 := N3.mod mN (by simp; omega)
          clear mN hb3 N3
        all_goals
          refine (encode_any k p v kid (by omega) _).mono ?_
          rintro e w7 ⟨rfl, hb⟩
          have N7 := N6.keep hb
          have hb7 := hb6.trans (hb.mono hb6.size)
          clear N6 hb6 hb hn3
          cases hc : chk k p v kid
          · have hchk := check_any k p v kid (by omega)
            rw [show chkI (chk k p v kid) = 80 from by simp [chkI, hc]] at hchk
            have hdig := ndigest_any k p v kid (by omega)
            rw [show dgP k p v kid = [] from by simp [dgP, hc]] at hdig
            rw [show encR k p v kid = ([], 80) from by simp [encR, hc]]
            have HC := Lib.hid hchk
            have HG := Lib.hid hdig
            clear hchk hdig hc hB1
            go_wp2_with (first | (refine wpList_node rfl (.tmp 3) rfl rfl N7 ?_) | (refine wpList_nodeG ?hw (.tmp 3) rfl rfl N7 ?_; (case hw => rfl)))
            refine (HC.out _).mono ?_
            rintro e w8 ⟨rfl, hb⟩
            have N8 := N7.keep hb
            have hb8 := hb7.trans (hb.mono hb7.size)
            clear N7 hb7 hb
            go_wp2_with (first | (refine wpList_node rfl (.tmp 3) rfl rfl N8 ?_) | (refine wpList_nodeG ?hw (.tmp 3) rfl rfl N8 ?_; (case hw => rfl)))
            refine (HG.out _ (hk.keep hb8)).mono ?_
            rintro e w9 ⟨rfl, hb⟩
            have hb9 := hb8.trans (hb.mono hb8.size)
            go_wp2_with fail
            all_goals (go_ret; exact ⟨rfl, hb9⟩)
          · rw [show encR k p v kid = (enc k p v kid, 0) from by simp [encR, hc]]
            have ht := enc_small k p v kid hc
            have ht1 := enc_pos k p v kid hc
            have hD1 := decode_any (enc k p v kid) (by omega)
            rw [dec_enc k p v kid hc] at hD1
            have hD2 := decode_any ((enc k p v kid).take ((enc k p v kid).length - 1)) (by simp; omega)
            rw [dec_cut k p v kid hc _ (by omega)] at hD2
            have hD3 : more ≠ [] → ∀ w, Calls Tryd.prog 15 #[.string ⟨List.toArray (enc k p v kid ++ more)⟩] w fun e w' => e = .returned (.tuple #[.agg (nd 0 ([]) ([]) noK).toArray, .int .i64 (80)]) ∧ Below w.heap.size w w' := by
              intro hm w
              have := decode_any (enc k p v kid ++ more) (by simp; omega) w
              rw [dec_more k p v kid hc more hm] at this
              exact this
            generalize enc k p v kid = t at *
            have H1 := Lib.hid hD1
            have H2 := Lib.hid hD2
            have H3 := Lib.hid hD3
            clear hD1 hD2 hD3 hc hB1
            have q1 : IntKind.i64.wrap ((t.length : Int) - 1) = ((t.length - 1 : Nat) : Int) := by rw [show (t.length : Int) - 1 = ((t.length - 1 : Nat) : Int) from by omega]; exact IntWalk.i64_in _ (by omega)
            have q2 : (t.length : Int) - 1 = ((t.length - 1 : Nat) : Int) := by omega
            have q3 : t.length - 1 ≤ t.length := by omega
            go_wp2_with fail
            refine (H1.out _).mono ?_
            rintro e w8 ⟨rfl, hb⟩
            have N8 := (N7.keep hb).alloc (.cells #[.int .i64 (0), .string ⟨List.toArray ([])⟩, .string ⟨List.toArray ([])⟩, .string ⟨List.toArray ([])⟩, .string ⟨List.toArray ([])⟩, .string ⟨List.toArray ([])⟩, .string ⟨List.toArray ([])⟩, .string ⟨List.toArray ([])⟩, .string ⟨List.toArray ([])⟩, .string ⟨List.toArray ([])⟩, .string ⟨List.toArray ([])⟩, .string ⟨List.toArray ([])⟩, .string ⟨List.toArray ([])⟩, .string ⟨List.toArray ([])⟩, .string ⟨List.toArray ([])⟩, .string ⟨List.toArray ([])⟩, .string ⟨List.toArray ([])⟩, .string ⟨List.toArray ([])⟩, .string ⟨List.toArray ([])⟩] 24)
            have hn8 := (N7.keep hb).lt
            have hb8 := hb7.trans (hb.mono hb7.size)
            clear N7 hb7 hb
            go_wp2_with (refine wpList_nodeStore rfl rfl (.tmp 13) (.tmp 90) rfl rfl (kind := k) (path := p) (val := v) (kid := cut kid 16) rfl (k2 := 0) (p2 := []) (v2 := []) (kid2 := noK) (Blk.new' (by simp)) ?_; intro wN M mN)
            have N9 := N8.mod mN (by simp; omega)
            have hb9 := Below.mod (Below.allocS hb8 (.cells #[.int .i64 (0), .string ⟨List.toArray ([])⟩, .string ⟨List.toArray ([])⟩, .string ⟨List.toArray ([])⟩, .string ⟨List.toArray ([])⟩, .string ⟨List.toArray ([])⟩, .string ⟨List.toArray ([])⟩, .string ⟨List.toArray ([])⟩, .string ⟨List.toArray ([])⟩, .string ⟨List.toArray ([])⟩, .string ⟨List.toArray ([])⟩, .string ⟨List.toArray ([])⟩, .string ⟨List.toArray ([])⟩, .string ⟨List.toArray ([])⟩, .string ⟨List.toArray ([])⟩, .string ⟨List.toArray ([])⟩, .string ⟨List.toArray ([])⟩, .string ⟨List.toArray ([])⟩, .string ⟨List.toArray ([])⟩] 24)) mN (by simp; have := hb8.size; omega) (by simp; have := hb8.size; omega)
            clear mN hb8 N8
            refine (H2.out _).mono ?_
            rintro e w10 ⟨rfl, hb⟩
            have N10 := (N9.keep hb).alloc (.cells #[.int .i64 (0), .string ⟨List.toArray ([])⟩, .string ⟨List.toArray ([])⟩, .string ⟨List.toArray ([])⟩, .string ⟨List.toArray ([])⟩, .string ⟨List.toArray ([])⟩, .string ⟨List.toArray ([])⟩, .string ⟨List.toArray ([])⟩, .string ⟨List.toArray ([])⟩, .string ⟨List.toArray ([])⟩, .string ⟨List.toArray ([])⟩, .string ⟨List.toArray ([])⟩, .string ⟨List.toArray ([])⟩, .string ⟨List.toArray ([])⟩, .string ⟨List.toArray ([])⟩, .string ⟨List.toArray ([])⟩, .string ⟨List.toArray ([])⟩, .string ⟨List.toArray ([])⟩, .string ⟨List.toArray ([])⟩] 24)
            have M10 := (M.keep hb).alloc (.cells #[.int .i64 (0), .string ⟨List.toArray ([])⟩, .string ⟨List.toArray ([])⟩, .string ⟨List.toArray ([])⟩, .string ⟨List.toArray ([])⟩, .string ⟨List.toArray ([])⟩, .string ⟨List.toArray ([])⟩, .string ⟨List.toArray ([])⟩, .string ⟨List.toArray ([])⟩, .string ⟨List.toArray ([])⟩, .string ⟨List.toArray ([])⟩, .string ⟨List.toArray ([])⟩, .string ⟨List.toArray ([])⟩, .string ⟨List.toArray ([])⟩, .string ⟨List.toArray ([])⟩, .string ⟨List.toArray ([])⟩, .string ⟨List.toArray ([])⟩, .string ⟨List.toArray ([])⟩, .string ⟨List.toArray ([])⟩] 24)
            have hn10 := (N9.keep hb).lt
            have hm10 := (M.keep hb).lt
            have hb10 := hb9.trans (hb.mono hb9.size)
            clear hb9 N9 M hb
            rcases hmo : more with _ | ⟨m0, mr⟩
            · go_wp2_with (refine wpList_nodeStore rfl rfl (.tmp 15) (.tmp 99) rfl rfl (kind := 0) (path := []) (val := []) (kid := noK) rfl (k2 := 0) (p2 := []) (v2 := []) (kid2 := noK) (Blk.new' (by simp)) ?_; intro wN2 M2 mN)
              have N11 := N10.mod mN (by simp; omega)
              have M11 := M10.mod mN (by simp; omega)
              have hb11 := Below.mod (Below.allocS hb10 (.cells #[.int .i64 (0), .string ⟨List.toArray ([])⟩, .string ⟨List.toArray ([])⟩, .string ⟨List.toArray ([])⟩, .string ⟨List.toArray ([])⟩, .string ⟨List.toArray ([])⟩, .string ⟨List.toArray ([])⟩, .string ⟨List.toArray ([])⟩, .string ⟨List.toArray ([])⟩, .string ⟨List.toArray ([])⟩, .string ⟨List.toArray ([])⟩, .string ⟨List.toArray ([])⟩, .string ⟨List.toArray ([])⟩, .string ⟨List.toArray ([])⟩, .string ⟨List.toArray ([])⟩, .string ⟨List.toArray ([])⟩, .string ⟨List.toArray ([])⟩, .string ⟨List.toArray ([])⟩, .string ⟨List.toArray ([])⟩] 24)) mN (by simp; have := hb10.size; omega) (by simp; have := hb10.size; omega)
              clear mN hb10 N10 M10 M2
              refine (H1.out _).mono ?_
              rintro e w12 ⟨rfl, hb⟩
              have N12 := (N11.keep hb).alloc (.cells #[.int .i64 (0), .string ⟨List.toArray ([])⟩, .string ⟨List.toArray ([])⟩, .string ⟨List.toArray ([])⟩, .string ⟨List.toArray ([])⟩, .string ⟨List.toArray ([])⟩, .string ⟨List.toArray ([])⟩, .string ⟨List.toArray ([])⟩, .string ⟨List.toArray ([])⟩, .string ⟨List.toArray ([])⟩, .string ⟨List.toArray ([])⟩, .string ⟨List.toArray ([])⟩, .string ⟨List.toArray ([])⟩, .string ⟨List.toArray ([])⟩, .string ⟨List.toArray ([])⟩, .string ⟨List.toArray ([])⟩, .string ⟨List.toArray ([])⟩, .string ⟨List.toArray ([])⟩, .string ⟨List.toArray ([])⟩] 24)
              have M12 := (M11.keep hb).alloc (.cells #[.int .i64 (0), .string ⟨List.toArray ([])⟩, .string ⟨List.toArray ([])⟩, .string ⟨List.toArray ([])⟩, .string ⟨List.toArray ([])⟩, .string ⟨List.toArray ([])⟩, .string ⟨List.toArray ([])⟩, .string ⟨List.toArray ([])⟩, .string ⟨List.toArray ([])⟩, .string ⟨List.toArray ([])⟩, .string ⟨List.toArray ([])⟩, .string ⟨List.toArray ([])⟩, .string ⟨List.toArray ([])⟩, .string ⟨List.toArray ([])⟩, .string ⟨List.toArray ([])⟩, .string ⟨List.toArray ([])⟩, .string ⟨List.toArray ([])⟩, .string ⟨List.toArray ([])⟩, .string ⟨List.toArray ([])⟩] 24)
              have hn12 := (N11.keep hb).lt
              have hm12 := (M11.keep hb).lt
              have hb12 := hb11.trans (hb.mono hb11.size)
              have hq := eqNd_cut k p v kid
              go_wp2_with (first
                | (refine wpList_nodeStore rfl rfl (.tmp 17) (.tmp 106) rfl rfl (kind := k) (path := p) (val := v) (kid := cut kid 16) rfl (k2 := 0) (p2 := []) (v2 := []) (kid2 := noK) (Blk.new' (by simp)) ?_; intro wN3 M3 mN; have N13 := N12.mod mN (by simp; omega); have M13 := M12.mod mN (by simp; omega))
                | (refine wpList_node rfl (.tmp 13) rfl rfl (kind := k) (path := p) (val := v) (kid := cut kid 16) (by assumption) ?_)
                | (refine wpList_node rfl (.tmp 3) rfl rfl (kind := k) (path := p) (val := v) (kid := kid) (by assumption) ?_))
              have hb13 := Below.mod (Below.allocS hb12 (.cells #[.int .i64 (0), .string ⟨List.toArray ([])⟩, .string ⟨List.toArray ([])⟩, .string ⟨List.toArray ([])⟩, .string ⟨List.toArray ([])⟩, .string ⟨List.toArray ([])⟩, .string ⟨List.toArray ([])⟩, .string ⟨List.toArray ([])⟩, .string ⟨List.toArray ([])⟩, .string ⟨List.toArray ([])⟩, .string ⟨List.toArray ([])⟩, .string ⟨List.toArray ([])⟩, .string ⟨List.toArray ([])⟩, .string ⟨List.toArray ([])⟩, .string ⟨List.toArray ([])⟩, .string ⟨List.toArray ([])⟩, .string ⟨List.toArray ([])⟩, .string ⟨List.toArray ([])⟩, .string ⟨List.toArray ([])⟩] 24)) (by assumption : Mod [w12.heap.size] _ _) (by simp; have := hb12.size; omega) (by simp; have := hb12.size; omega)
              all_goals (go_ret; exact ⟨rfl, hb13⟩)
            · have hcat : ¬ 9223372036854775807 < t.length + (m0 :: mr).length := by rw [← hmo]; omega
              rw [hmo] at H3
              go_wp2_with (refine wpList_nodeStore rfl rfl (.tmp 15) (.tmp 99) rfl rfl (kind := 0) (path := []) (val := []) (kid := noK) rfl (k2 := 0) (p2 := []) (v2 := []) (kid2 := noK) (Blk.new' (by simp)) ?_; intro wN2 M2 mN)
              have N11 := N10.mod mN (by simp; omega)
              have M11 := M10.mod mN (by simp; omega)
              have hb11 := Below.mod (Below.allocS hb10 (.cells #[.int .i64 (0), .string ⟨List.toArray ([])⟩, .string ⟨List.toArray ([])⟩, .string ⟨List.toArray ([])⟩, .string ⟨List.toArray ([])⟩, .string ⟨List.toArray ([])⟩, .string ⟨List.toArray ([])⟩, .string ⟨List.toArray ([])⟩, .string ⟨List.toArray ([])⟩, .string ⟨List.toArray ([])⟩, .string ⟨List.toArray ([])⟩, .string ⟨List.toArray ([])⟩, .string ⟨List.toArray ([])⟩, .string ⟨List.toArray ([])⟩, .string ⟨List.toArray ([])⟩, .string ⟨List.toArray ([])⟩, .string ⟨List.toArray ([])⟩, .string ⟨List.toArray ([])⟩, .string ⟨List.toArray ([])⟩] 24)) mN (by simp; have := hb10.size; omega) (by simp; have := hb10.size; omega)
              clear mN hb10 N10 M10 M2
              refine (H3.out (by simp) _).mono ?_
              rintro e w12 ⟨rfl, hb⟩
              have N12 := (N11.keep hb).alloc (.cells #[.int .i64 (0), .string ⟨List.toArray ([])⟩, .string ⟨List.toArray ([])⟩, .string ⟨List.toArray ([])⟩, .string ⟨List.toArray ([])⟩, .string ⟨List.toArray ([])⟩, .string ⟨List.toArray ([])⟩, .string ⟨List.toArray ([])⟩, .string ⟨List.toArray ([])⟩, .string ⟨List.toArray ([])⟩, .string ⟨List.toArray ([])⟩, .string ⟨List.toArray ([])⟩, .string ⟨List.toArray ([])⟩, .string ⟨List.toArray ([])⟩, .string ⟨List.toArray ([])⟩, .string ⟨List.toArray ([])⟩, .string ⟨List.toArray ([])⟩, .string ⟨List.toArray ([])⟩, .string ⟨List.toArray ([])⟩] 24)
              have M12 := (M11.keep hb).alloc (.cells #[.int .i64 (0), .string ⟨List.toArray ([])⟩, .string ⟨List.toArray ([])⟩, .string ⟨List.toArray ([])⟩, .string ⟨List.toArray ([])⟩, .string ⟨List.toArray ([])⟩, .string ⟨List.toArray ([])⟩, .string ⟨List.toArray ([])⟩, .string ⟨List.toArray ([])⟩, .string ⟨List.toArray ([])⟩, .string ⟨List.toArray ([])⟩, .string ⟨List.toArray ([])⟩, .string ⟨List.toArray ([])⟩, .string ⟨List.toArray ([])⟩, .string ⟨List.toArray ([])⟩, .string ⟨List.toArray ([])⟩, .string ⟨List.toArray ([])⟩, .string ⟨List.toArray ([])⟩, .string ⟨List.toArray ([])⟩] 24)
              have hn12 := (N11.keep hb).lt
              have hm12 := (M11.keep hb).lt
              have hb12 := hb11.trans (hb.mono hb11.size)
              have hq := eqNd_cut k p v kid
              go_wp2_with (first
                | (refine wpList_nodeStore rfl rfl (.tmp 17) (.tmp 106) rfl rfl (kind := 0) (path := []) (val := []) (kid := noK) rfl (k2 := 0) (p2 := []) (v2 := []) (kid2 := noK) (Blk.new' (by simp)) ?_; intro wN3 M3 mN; have N13 := N12.mod mN (by simp; omega); have M13 := M12.mod mN (by simp; omega))
                | (refine wpList_node rfl (.tmp 13) rfl rfl (kind := k) (path := p) (val := v) (kid := cut kid 16) (by assumption) ?_)
                | (refine wpList_node rfl (.tmp 3) rfl rfl (kind := k) (path := p) (val := v) (kid := kid) (by assumption) ?_))
              have hb13 := Below.mod (Below.allocS hb12 (.cells #[.int .i64 (0), .string ⟨List.toArray ([])⟩, .string ⟨List.toArray ([])⟩, .string ⟨List.toArray ([])⟩, .string ⟨List.toArray ([])⟩, .string ⟨List.toArray ([])⟩, .string ⟨List.toArray ([])⟩, .string ⟨List.toArray ([])⟩, .string ⟨List.toArray ([])⟩, .string ⟨List.toArray ([])⟩, .string ⟨List.toArray ([])⟩, .string ⟨List.toArray ([])⟩, .string ⟨List.toArray ([])⟩, .string ⟨List.toArray ([])⟩, .string ⟨List.toArray ([])⟩, .string ⟨List.toArray ([])⟩, .string ⟨List.toArray ([])⟩, .string ⟨List.toArray ([])⟩, .string ⟨List.toArray ([])⟩] 24)) (by assumption : Mod [w12.heap.size] _ _) (by simp; have := hb12.size; omega) (by simp; have := hb12.size; omega)
              all_goals (go_ret; exact ⟨rfl, hb13⟩)
  · go_wp2_with fail
    all_goals (go_ret; exact ⟨rfl, hb2⟩)

end Go.Proofs.YtmldonbmjgelnaaDoor
