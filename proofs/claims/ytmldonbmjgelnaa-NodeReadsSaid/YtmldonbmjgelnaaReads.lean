/- Walk of the statement NodeReads. -/
import Derived.Test.YtmldonbmjgelnaaWorks8
import Derived.Test.YtmldonbmjgelnaaEqNode
import Derived.Test.YtmldonbmjgelnaaRdec2
set_option linter.unusedSimpArgs false
set_option linter.unusedVariables false
namespace Go.Proofs.Ytmldonbmjgelnaa
open Go.RowKit Pl

theorem eqNd_refl (k : Int) (p v : Bs) (kid : Nat → Bs) : eqNd k p v kid k p v kid = true := by simp [eqNd, sameL]

set_option maxRecDepth 100000 in
set_option maxHeartbeats 2000000 in
theorem reads_any (s : Bs) (w : World) :
    Calls Try.prog 3 #[.string ⟨List.toArray (s)⟩] w fun e w' => e = .returned (.bool true) ∧ Below w.heap.size w w' := by
  by_cases hl : 2000 < s.length
  · have hd : decide ((2000 : Int) < (s.length : Int)) = true := by simp; omega
    go_enter Try.func3, Try.ntmps3
    go_wp2_with fail
    refine (works8_any _).mono ?_
    rintro e w1 ⟨rfl, hb⟩
    go_wp2_with fail
    go_ret
    exact ⟨rfl, hb⟩
  · have hd : decide ((2000 : Int) < (s.length : Int)) = false := by simp; omega
    have hdec := decode_any s (by omega)
    have hrdec := rdecode_any s (by omega)
    generalize dec s = x at hdec hrdec
    obtain ⟨⟨kd, pa, va, kk⟩, code⟩ := x
    simp only at hdec hrdec
    have HD := Lib.hid hdec
    have HR := Lib.hid hrdec
    clear hdec hrdec
    go_enter Try.func3, Try.ntmps3
    go_wp2_with fail
    refine (HD.out _).mono ?_
    rintro e w1 ⟨rfl, hb1⟩
    go_wp2_with (refine wpList_nodeStore rfl rfl (.tmp 3) (.tmp 14) rfl rfl (kind := kd) (path := pa) (val := va) (kid := kk) rfl (k2 := 0) (p2 := []) (v2 := []) (kid2 := noK) (Blk.new' (by simp)) ?_; intro wN N mN)
    have hb2 := Below.mod (Below.allocS hb1 (.cells #[.int .i64 (0), .string ⟨List.toArray ([])⟩, .string ⟨List.toArray ([])⟩, .string ⟨List.toArray ([])⟩, .string ⟨List.toArray ([])⟩, .string ⟨List.toArray ([])⟩, .string ⟨List.toArray ([])⟩, .string ⟨List.toArray ([])⟩, .string ⟨List.toArray ([])⟩, .string ⟨List.toArray ([])⟩, .string ⟨List.toArray ([])⟩, .string ⟨List.toArray ([])⟩, .string ⟨List.toArray ([])⟩, .string ⟨List.toArray ([])⟩, .string ⟨List.toArray ([])⟩, .string ⟨List.toArray ([])⟩, .string ⟨List.toArray ([])⟩, .string ⟨List.toArray ([])⟩, .string ⟨List.toArray ([])⟩] 25)) mN (by simp; have := hb1.size; omega) (by simp; have := hb1.size; omega)
    clear hb1 mN
    go_wp2_with fail
    refine (HR.out _).mono ?_
    rintro e w2 ⟨rfl, hb3⟩
    have N2 := (N.keep hb3).alloc (.cells #[.int .i64 (0), .string ⟨List.toArray ([])⟩, .string ⟨List.toArray ([])⟩, .string ⟨List.toArray ([])⟩, .string ⟨List.toArray ([])⟩, .string ⟨List.toArray ([])⟩, .string ⟨List.toArray ([])⟩, .string ⟨List.toArray ([])⟩, .string ⟨List.toArray ([])⟩, .string ⟨List.toArray ([])⟩, .string ⟨List.toArray ([])⟩, .string ⟨List.toArray ([])⟩, .string ⟨List.toArray ([])⟩, .string ⟨List.toArray ([])⟩, .string ⟨List.toArray ([])⟩, .string ⟨List.toArray ([])⟩, .string ⟨List.toArray ([])⟩, .string ⟨List.toArray ([])⟩, .string ⟨List.toArray ([])⟩] 25)
    have hn2 := (N.keep hb3).lt
    have hb4 := hb2.trans (hb3.mono hb2.size)
    have he := eqNd_refl kd pa va kk
    go_wp2_with (first
      | (refine wpList_nodeStore rfl rfl (.tmp 5) (.tmp 19) rfl rfl (kind := kd) (path := pa) (val := va) (kid := kk) rfl (k2 := 0) (p2 := []) (v2 := []) (kid2 := noK) (Blk.new' (by simp)) ?_; intro wM M mM; have N3 := N2.mod mM (by simp; omega))
      | (refine wpList_node rfl (.tmp 3) rfl rfl (kind := kd) (path := pa) (val := va) (kid := kk) (by assumption) ?_)
      | (refine wpList_node rfl (.tmp 5) rfl rfl (kind := kd) (path := pa) (val := va) (kid := kk) (by assumption) ?_))
    have hb5 := Below.mod (Below.allocS hb4 (.cells #[.int .i64 (0), .string ⟨List.toArray ([])⟩, .string ⟨List.toArray ([])⟩, .string ⟨List.toArray ([])⟩, .string ⟨List.toArray ([])⟩, .string ⟨List.toArray ([])⟩, .string ⟨List.toArray ([])⟩, .string ⟨List.toArray ([])⟩, .string ⟨List.toArray ([])⟩, .string ⟨List.toArray ([])⟩, .string ⟨List.toArray ([])⟩, .string ⟨List.toArray ([])⟩, .string ⟨List.toArray ([])⟩, .string ⟨List.toArray ([])⟩, .string ⟨List.toArray ([])⟩, .string ⟨List.toArray ([])⟩, .string ⟨List.toArray ([])⟩, .string ⟨List.toArray ([])⟩, .string ⟨List.toArray ([])⟩] 25)) (by assumption : Mod [w2.heap.size] _ _) (by simp; have := hb4.size; omega) (by simp; have := hb4.size; omega)
    refine (works8_any _).mono ?_
    rintro e w5 ⟨rfl, hb6⟩
    go_wp2_with fail
    go_ret
    exact ⟨rfl, hb5.trans (hb6.mono hb5.size)⟩
end Go.Proofs.Ytmldonbmjgelnaa
