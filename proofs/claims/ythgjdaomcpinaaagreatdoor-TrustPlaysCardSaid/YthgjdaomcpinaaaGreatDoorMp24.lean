/- JScan, Shelf9, TrustS, Same. -/
import Derived.Shelf.SlIterI.Nil
import Derived.Shelf.SortM.Plain
import Derived.Shelf.SortM.SortNone
import Derived.Test.YthgjdaomcpinaaaGreatDoorMp23
set_option linter.unnecessarySimpa false
set_option linter.unusedSimpArgs false
set_option linter.unusedVariables false
set_option maxRecDepth 100000
set_option maxHeartbeats 32000000
namespace Go.Proofs.YthgjdaomcpinaaaGreatDoor
open Go.RowKit Pl
namespace Pl
theorem recsP_drop (B : List (List Bs)) (tail : Bs) (i : Nat) : (recsP B ++ tail).drop (recsP (B.take i)).length = recsP (B.drop i) ++ tail := by
 have h : recsP B = recsP (B.take i) ++ recsP (B.drop i) := by rw [← recsP_app, List.take_append_drop]
 rw [h, List.append_assoc, List.drop_left]
theorem recsP_step (B : List (List Bs)) (i : Nat) (hi : i < B.length) : recsP (B.take (i + 1)) = recsP (B.take i) ++ recP (B.getD i []) := by
 rw [List.take_succ_eq_append_getElem hi, recsP_snoc, List.getD_eq_getElem?_getD, List.getElem?_eq_getElem hi]
 rfl
theorem recsP_le (B : List (List Bs)) (i : Nat) : (recsP (B.take i)).length ≤ (recsP B).length := by
 have h : recsP B = recsP (B.take i) ++ recsP (B.drop i) := by rw [← recsP_app, List.take_append_drop]
 rw [h, List.length_append]
 omega
theorem recsP_four : ∀ (B : List (List Bs)), 4 * B.length ≤ (recsP B).length
 | [] => by simp
 | b :: B => by
  have h1 := recsP_four B
  have h2 := recP_pos b
  rw [recsP_cons, List.length_append, List.length_cons]
  omega
end Pl
theorem jscan_any (B : List (List Bs)) (tail : Bs) (hB : ∀ b ∈ B, mayR b = true) (ht : nextP tail = none) (hl : (recsP B ++ tail).length ≤ 1048576) (w : World) (hk : KT w) :
  Calls Tryz.prog 122 #[.string ⟨List.toArray (recsP B ++ tail)⟩] w fun e w' => ∃ v, e = .returned (.tuple #[v, .int .i64 (((recsP B).length : Int))]) ∧ LS w' w.heap.size v B ∧ Below w.heap.size w w' := by
 have HL := Lib.hid (recsP_le B)
 have h4 := recsP_four B
 have hBl : B.length ≤ 262144 := by rw [List.length_append] at hl; omega
 obtain ⟨s, hs⟩ : ∃ s, s = recsP B ++ tail := ⟨_, rfl⟩
 have HD := Lib.hid (fun i => recsP_drop B tail i)
 have hsl : s.length = (recsP B).length + tail.length := by rw [hs, List.length_append]
 rw [← hs] at HD hl ⊢
 have HS := Lib.hid (recsP_step B)
 have HB := Lib.hid hB
 have HT := Lib.hid ht
 have HSL := Lib.hid hsl
 have HZ : Hid ((recsP (B.take 0)).length = 0 ∧ (recsP (B.take B.length)).length = (recsP B).length) := Lib.hid ⟨rfl, by rw [List.take_length]⟩
 clear hs hsl hB ht h4
 go_enter Tryz.func122, Tryz.ntmps122
 go_wp2_with fail
 go_step3
 go_wp2_with fail
 go_step3
 go_wp2_with fail
 go_loopw [2, 3] (fun s2 s3 wr => ∃ (i n : Nat), i ≤ B.length ∧ Hid (n = (recsP (B.take i)).length) ∧ s3 = .int .i64 n ∧ LS wr w.heap.size s2 (B.take i) ∧ Below w.heap.size w wr) (fun s2 s3 _ => s.length - (intOf s3).toNat)
 case atStart => exact ⟨0, 0, by omega, Lib.hid rfl, rfl, LS.nil _ _, Below.refl _ _⟩
 case round =>
  obtain ⟨i, n, hi, HN, rfl, hS, hb⟩ := hrel
  have hti : (B.take i).length = i := by rw [List.length_take]; omega
  obtain ⟨sa, sc, hsv⟩ := hS.form
  rw [hti] at hsv
  subst hsv
  have hnl : n ≤ s.length := by rw [HN.out]; have := HL.out i; have := HSL.out; omega
  have hDn : s.drop n = recsP (B.drop i) ++ tail := by rw [HN.out]; exact HD.out i
  by_cases hlt : i < B.length
  ·have hst := HS.out i hlt
   have hmem : B.getD i [] ∈ B := by rw [List.getD_eq_getElem?_getD, List.getElem?_eq_getElem hlt]; exact List.getElem_mem _
   have hmy := HB.out _ hmem
   have hD2 : s.drop n = recP (B.getD i []) ++ (recsP (B.drop (i + 1)) ++ tail) := by
    rw [hDn, List.drop_eq_getElem_cons hlt, recsP_cons, List.append_assoc, List.getD_eq_getElem?_getD, List.getElem?_eq_getElem hlt]
    rfl
   have hnx := nextP_rec hmy (recsP (B.drop (i + 1)) ++ tail)
   rw [← hD2] at hnx
   have hrp := recP_pos (B.getD i [])
   have hln : n + (recP (B.getD i [])).length ≤ s.length := by
    have h := congrArg List.length hD2
    rw [List.length_drop, List.length_append] at h
    omega
   have HN2 : Hid (n + (recP (B.getD i [])).length = (recsP (B.take (i + 1))).length) := Lib.hid (by rw [hst, List.length_append, HN.out])
   have HTK : Hid (B.take (i + 1) = B.take i ++ [B.getD i []]) := Lib.hid (by rw [List.take_succ_eq_append_getElem hlt, List.getD_eq_getElem?_getD, List.getElem?_eq_getElem hlt]; rfl)
   have q1 := jnext_any (s.drop n) (by rw [List.length_drop]; omega) wr (hk.keep hb)
   rw [hnx] at q1
   generalize B.getD i [] = b at *
   generalize (recP b).length = m at *
   have i1 : decide ((n : Int) < (s.length : Int)) = true := by simp; omega
   have i2 : (0 : Int) ≤ (n : Int) ∧ (n : Int) ≤ (s.length : Int) := by omega
   have w1 : IntKind.i64.wrap ((n : Int) + (m : Int)) = (n : Int) + (m : Int) := by rw [IntKind.wrap_i64]; omega
   have hx : (s.drop n).take (s.length - n) = s.drop n := List.take_of_length_le (by rw [List.length_drop]; omega)
   obtain ⟨ts, t1, t2, t3⟩ := hS
   rw [hti] at t1 t2
   have HT1 := Lib.hid t1
   clear hD2 hnx hDn hmem hmy hst HN HD
   go_wp2_with fail
   refine q1.mono ?_
   rintro e w2 hq
   obtain ⟨v, rfl, hv⟩ := hq.2.1 _ rfl
   have hb2 := hb.trans (hq.1.mono hb.size)
   have hr2 := row_belowO t2 hq.1
   have ht3 : ∀ j, j < (B.take i).length → SRow w2 w.heap.size (ts.getD j nilSl) ((B.take i).getD j []) := fun j hj => (t3 j hj).keep hq.1
   have hv2 := hv.low hb.size
   obtain ⟨va, vc, rfl⟩ := hv2.form
   have hs2 := hb2.size
   have HT3 := Lib.hid ht3
   clear q1 hq hv t2 t3 ht3
   go_wp2_with (first
    | (at_builtin; refine wpList_appG rfl (.tmp 21) (.tmp 23) 117 22 (.slice none 0 0) 1 24 Tryz.underlying117 infoSS rfl (by decide) (by decide) rfl w.heap.size i _ ts [.slice va b.length vc] rfl (row_belowO hr2 (Below.allocS (Below.refl _ _) _)) rfl w2.heap.size rfl (fun j u hj => ?_) (by simp [Value.oneCell']) (by omega) (by simp; omega) ?_; rotate_left; intro v5 w5 hr5 hg5 hv5)
    | fail)
   ·have hls5 : LS w5 w.heap.size v5 (B.take i ++ [b]) := by
     have hgx := (LS.keep (B := B.take i) (v := .slice sa i sc) (base := w.heap.size) (w := w2) ⟨ts, by rw [hti]; exact HT1.out, by rw [hti]; exact hr2, HT3.out⟩ (Below.allocS (Below.refl _ _) (.cells #[.slice va b.length vc] 22)))
     exact LS.snoc hgx (hv2.keep (Below.allocS (Below.refl _ _) _)) hg5 (by rw [hti]; exact HT1.out) (fun j hj => (HT3.out j hj).keep (Below.allocS (Below.refl _ _) _)) (by rw [hti]; exact row_belowO hr2 (Below.allocS (Below.refl _ _) _)) (by rw [hti]; exact hr5)
    have hbg := grown_below hg5 (by simp; omega) (fun k hk => (row_ltO hr2 hk).1)
    have hb5 := (Below.allocS hb2 (.cells #[.slice va b.length vc] 22)).trans hbg
    rw [← HTK.out] at hls5
    exact ⟨⟨i + 1, n + m, by omega, HN2, by go_num, hls5, hb5⟩, by simp [intOf]; omega⟩
   ·rcases j with _ | j
    ·simp at hj
     subst hj
     simp
    ·simp at hj
  ·have hil : i = B.length := by omega
   subst hil
   rw [List.take_length] at hS
   have hnl2 : n = (recsP B).length := by rw [HN.out, List.take_length]
   rw [List.drop_length] at hDn
   have hD2 : s.drop n = tail := by rw [hDn]; rfl
   clear hi hlt hDn HN HD HB hti
   have HNL := Lib.hid hnl2
   by_cases ht0 : n < s.length
   ·have i1 : decide ((n : Int) < (s.length : Int)) = true := by simp; omega
    have i2 : (0 : Int) ≤ (n : Int) ∧ (n : Int) ≤ (s.length : Int) := by omega
    have hx : (s.drop n).take (s.length - n) = s.drop n := List.take_of_length_le (by rw [List.length_drop]; omega)
    have q1 := jnext_any (s.drop n) (by rw [List.length_drop]; omega) wr (hk.keep hb)
    rw [show nextP (s.drop n) = none from by rw [hD2]; exact HT.out] at q1
    have HS1 := Lib.hid hS
    have i3 : decide (n < s.length) = true := by simpa using ht0
    clear hnl2 hD2 hS
    go_wp2_with fail
    refine q1.mono ?_
    rintro e w2 hq
    obtain rfl := hq.2.2 rfl
    have hb2 := hb.trans (hq.1.mono hb.size)
    have hS2 := HS1.out.keep hq.1
    clear q1 hq
    go_wp2_with fail
    rw [Exit.noGoto_ret]
    go_ret2
    exact ⟨_, (by rw [HNL.out]; rfl), hS2, hb2⟩
   ·have i1 : decide ((n : Int) < (s.length : Int)) = false := by simp; omega
    have i0 : decide (n < s.length) = false := by simpa using ht0
    clear hnl2 hD2
    go_wp2_with fail
    all_goals
     rw [Exit.noGoto_ret]
     go_ret2
     exact ⟨_, (by rw [HNL.out]; rfl), hS, hb⟩
end Go.Proofs.YthgjdaomcpinaaaGreatDoor
namespace Go.Proofs.YthgjdaomcpinaaaGreatDoor
open Go.Shelf
def keysT_ren : Go.Shelf.Ren := ⟨fun | 7 => 76 | 10 => 137 | n => n, fun | 23 => 120 | 26 => 3 | 3 => 27 | 28 => 133 | 0 => 0 | 27 => 132 | 33 => 181 | 4 => 4 | n => n, fun | n => n⟩
theorem keysT : Go.Proofs.SlLaysZI.n7 Tryz.prog keysT_ren := {
 mixed := by kernel_rfl
 f7 := ⟨Tryz.f76.name, by decide, Tryz.func76.trans (congrArg some (by kernel_rfl))⟩
 f10 := ⟨Tryz.f137.name, by decide, Tryz.func137.trans (congrArg some (by kernel_rfl))⟩
 t0 := Tryz.underlying0
 a0 := Tryz.isAgg0
 z0 := Tryz.sizeOf0
 v0 := Tryz.zeroValue0
 t4 := Tryz.underlying4
 a4 := Tryz.isAgg4
 z4 := Tryz.sizeOf4
 v4 := Tryz.zeroValue4
 t23 := Tryz.underlying120
 a23 := Tryz.isAgg120
 z23 := Tryz.sizeOf120
 v23 := Tryz.zeroValue120
 t26 := Tryz.underlying3
 a26 := Tryz.isAgg3
 z26 := Tryz.sizeOf3
 v26 := Tryz.zeroValue3
 t27 := Tryz.underlying132
 a27 := Tryz.isAgg132
 z27 := Tryz.sizeOf132
 v27 := Tryz.zeroValue132
 t28 := Tryz.underlying133
 a28 := Tryz.isAgg133
 z28 := Tryz.sizeOf133
 v28 := Tryz.zeroValue133
 t33 := Tryz.underlying181
 a33 := Tryz.isAgg181
 z33 := Tryz.sizeOf181
 v33 := Tryz.zeroValue181 }
def sortedT_ren : Go.Shelf.Ren := ⟨fun | 6 => 75 | 8 => 135 | 9 => 136 | 11 => 162 | 13 => 164 | 12 => 163 | 23 => 187 | 24 => 188 | 14 => 179 | 15 => 180 | 16 => 181 | 17 => 182 | 18 => 183 | 19 => 184 | 20 => 138 | 21 => 185 | 22 => 186 | 25 => 196 | 26 => 197 | 27 => 198 | 28 => 199 | 29 => 200 | 30 => 165 | 31 => 204 | n => n, fun | 26 => 3 | 28 => 133 | 24 => 51 | 0 => 0 | 3 => 3 | 37 => 170 | 48 => 196 | 50 => 199 | 4 => 4 | 40 => 220 | 39 => 219 | 45 => 138 | 5 => 5 | 9 => 9 | 51 => 236 | 55 => 240 | 57 => 246 | 58 => 247 | 33 => 181 | n => n, fun | n => n⟩
theorem sortedT : Go.Proofs.SlLaysZI.n6 Tryz.prog sortedT_ren := {
 mixed := by kernel_rfl
 f6 := ⟨Tryz.f75.name, by decide, Tryz.func75.trans (congrArg some (by kernel_rfl))⟩
 f8 := ⟨Tryz.f135.name, by decide, Tryz.func135.trans (congrArg some (by kernel_rfl))⟩
 f11 := ⟨Tryz.f162.name, by decide, Tryz.func162.trans (congrArg some (by kernel_rfl))⟩
 t0 := Tryz.underlying0
 a0 := Tryz.isAgg0
 z0 := Tryz.sizeOf0
 v0 := Tryz.zeroValue0
 t24 := Tryz.underlying51
 a24 := Tryz.isAgg51
 z24 := Tryz.sizeOf51
 v24 := Tryz.zeroValue51
 t26 := Tryz.underlying3
 a26 := Tryz.isAgg3
 z26 := Tryz.sizeOf3
 v26 := Tryz.zeroValue3
 t28 := Tryz.underlying133
 a28 := Tryz.isAgg133
 z28 := Tryz.sizeOf133
 v28 := Tryz.zeroValue133
 i26 := by kernel_rfl }
def sortT_ren : Go.Shelf.Ren := ⟨fun | 5 => 136 | 8 => 164 | 7 => 163 | 19 => 187 | 20 => 188 | 10 => 179 | 11 => 180 | 12 => 181 | 13 => 182 | 14 => 183 | 15 => 184 | 16 => 138 | 17 => 185 | 18 => 186 | 30 => 196 | 31 => 197 | 32 => 198 | 33 => 199 | 34 => 200 | 35 => 165 | 40 => 204 | n => n, fun | 23 => 51 | 25 => 3 | 3 => 3 | 32 => 170 | 22 => 51 | 0 => 0 | 44 => 196 | 46 => 199 | 4 => 4 | 36 => 220 | 35 => 219 | 41 => 138 | 5 => 5 | 9 => 9 | 53 => 236 | 57 => 240 | 63 => 246 | 64 => 247 | n => n, fun | n => n⟩
theorem sortT : Go.Proofs.SlLaysM.n5 Tryz.prog sortT_ren := {
 mixed := by kernel_rfl
 f5 := ⟨Tryz.f136.name, by decide, Tryz.func136.trans (congrArg some (by kernel_rfl))⟩
 f7 := ⟨Tryz.f163.name, by decide, Tryz.func163.trans (congrArg some (by kernel_rfl))⟩
 f8 := Tryz.func164.trans (congrArg some (by kernel_rfl))
 f10 := ⟨Tryz.f179.name, by decide, Tryz.func179.trans (congrArg some (by kernel_rfl))⟩
 f11 := ⟨Tryz.f180.name, by decide, Tryz.func180.trans (congrArg some (by kernel_rfl))⟩
 f12 := ⟨Tryz.f181.name, by decide, Tryz.func181.trans (congrArg some (by kernel_rfl))⟩
 f13 := ⟨Tryz.f182.name, by decide, Tryz.func182.trans (congrArg some (by kernel_rfl))⟩
 f14 := ⟨Tryz.f183.name, by decide, Tryz.func183.trans (congrArg some (by kernel_rfl))⟩
 f15 := ⟨Tryz.f184.name, by decide, Tryz.func184.trans (congrArg some (by kernel_rfl))⟩
 f16 := ⟨Tryz.f138.name, by decide, Tryz.func138.trans (congrArg some (by kernel_rfl))⟩
 f17 := ⟨Tryz.f185.name, by decide, Tryz.func185.trans (congrArg some (by kernel_rfl))⟩
 f18 := ⟨Tryz.f186.name, by decide, Tryz.func186.trans (congrArg some (by kernel_rfl))⟩
 f19 := Tryz.func187.trans (congrArg some (by kernel_rfl))
 f20 := Tryz.func188.trans (congrArg some (by kernel_rfl))
 f30 := ⟨Tryz.f196.name, by decide, Tryz.func196.trans (congrArg some (by kernel_rfl))⟩
 f31 := Tryz.func197.trans (congrArg some (by kernel_rfl))
 f32 := Tryz.func198.trans (congrArg some (by kernel_rfl))
 f33 := ⟨Tryz.f199.name, by decide, Tryz.func199.trans (congrArg some (by kernel_rfl))⟩
 f34 := ⟨Tryz.f200.name, by decide, Tryz.func200.trans (congrArg some (by kernel_rfl))⟩
 f35 := ⟨Tryz.f165.name, by decide, Tryz.func165.trans (congrArg some (by kernel_rfl))⟩
 f40 := ⟨Tryz.f204.name, by decide, Tryz.func204.trans (congrArg some (by kernel_rfl))⟩
 t0 := Tryz.underlying0
 a0 := Tryz.isAgg0
 z0 := Tryz.sizeOf0
 v0 := Tryz.zeroValue0
 t3 := Tryz.underlying3
 a3 := Tryz.isAgg3
 z3 := Tryz.sizeOf3
 v3 := Tryz.zeroValue3
 t4 := Tryz.underlying4
 a4 := Tryz.isAgg4
 z4 := Tryz.sizeOf4
 v4 := Tryz.zeroValue4
 t5 := Tryz.underlying5
 a5 := Tryz.isAgg5
 z5 := Tryz.sizeOf5
 v5 := Tryz.zeroValue5
 t9 := Tryz.underlying9
 a9 := Tryz.isAgg9
 z9 := Tryz.sizeOf9
 v9 := Tryz.zeroValue9
 t22 := Tryz.underlying51
 a22 := Tryz.isAgg51
 z22 := Tryz.sizeOf51
 v22 := Tryz.zeroValue51
 t23 := Tryz.underlying51
 a23 := Tryz.isAgg51
 z23 := Tryz.sizeOf51
 v23 := Tryz.zeroValue51
 t25 := Tryz.underlying3
 a25 := Tryz.isAgg3
 z25 := Tryz.sizeOf3
 v25 := Tryz.zeroValue3
 t32 := Tryz.underlying170
 a32 := Tryz.isAgg170
 z32 := Tryz.sizeOf170
 v32 := Tryz.zeroValue170
 t35 := Tryz.underlying219
 a35 := Tryz.isAgg219
 z35 := Tryz.sizeOf219
 v35 := Tryz.zeroValue219
 t36 := Tryz.underlying220
 a36 := Tryz.isAgg220
 z36 := Tryz.sizeOf220
 v36 := Tryz.zeroValue220
 t41 := Tryz.underlying138
 a41 := Tryz.isAgg138
 z41 := Tryz.sizeOf138
 v41 := Tryz.zeroValue138
 t44 := Tryz.underlying196
 a44 := Tryz.isAgg196
 z44 := Tryz.sizeOf196
 v44 := Tryz.zeroValue196
 t46 := Tryz.underlying199
 a46 := Tryz.isAgg199
 z46 := Tryz.sizeOf199
 v46 := Tryz.zeroValue199
 t53 := Tryz.underlying236
 a53 := Tryz.isAgg236
 z53 := Tryz.sizeOf236
 v53 := Tryz.zeroValue236
 t57 := Tryz.underlying240
 a57 := Tryz.isAgg240
 z57 := Tryz.sizeOf240
 v57 := Tryz.zeroValue240
 t63 := Tryz.underlying246
 a63 := Tryz.isAgg246
 z63 := Tryz.sizeOf246
 v63 := Tryz.zeroValue246
 t64 := Tryz.underlying247
 a64 := Tryz.isAgg247
 z64 := Tryz.sizeOf247
 v64 := Tryz.zeroValue247 }
end Go.Proofs.YthgjdaomcpinaaaGreatDoor
namespace Go.Proofs.YthgjdaomcpinaaaGreatDoor
open Go.RowKit Go.Shelf Pl
def TV (w : World) (v : Value) (t : Tr) : Prop := ∃ sk ms, v = .agg #[.int .i64 t.head.height, .int .i64 t.head.epoch, .int .i64 t.head.view, .bool t.head.last, .string ⟨List.toArray t.head.parent⟩, .string ⟨List.toArray t.head.state⟩, .string ⟨List.toArray t.head.receipts⟩, .string ⟨List.toArray t.head.txs⟩, .string ⟨List.toArray t.head.members⟩, .string ⟨List.toArray t.head.next⟩, sk, ms, .int .i64 t.at_] ∧ SS w sk t.head.skips ∧ MS w ms t.set
theorem TRow.tv {w : World} {base : Nat} {v : Value} {t : Tr} (h : TRow w base v t) : TV w v t := by
 obtain ⟨sk, ms, h1, h2, h3⟩ := h
 exact ⟨sk, ms, h1, h2.ss, h3.ms⟩
theorem tr_same (u v : Value) (t r : Tr) (w : World) (hu : TV w u t) (hv : TV w v r) :
  Calls Tryz.prog 71 #[u, v] w fun e w' => e = .returned (.bool (decide ((encHR t.head).1 = (encHR r.head).1))) ∧ Below w.heap.size w w' := by
 obtain ⟨⟨a1, a2, a3, lb, pa, st, rc, tx, me, ne, K⟩, L, ta⟩ := t
 obtain ⟨⟨d1, d2, d3, eb, pb, su, rd, ty, mf, nf, K2⟩, L2, tb⟩ := r
 obtain ⟨sk, ms, rfl, h1, h2⟩ := hu
 obtain ⟨sk2, ms2, rfl, h3, h4⟩ := hv
 have B0 : Blk (w.alloc (.cells #[.int .i64 a1, .int .i64 a2, .int .i64 a3, .bool lb, .string ⟨List.toArray pa⟩, .string ⟨List.toArray st⟩, .string ⟨List.toArray rc⟩, .string ⟨List.toArray tx⟩, .string ⟨List.toArray me⟩, .string ⟨List.toArray ne⟩, sk, ms, .int .i64 ta] 27)) w.heap.size #[.int .i64 a1, .int .i64 a2, .int .i64 a3, .bool lb, .string ⟨List.toArray pa⟩, .string ⟨List.toArray st⟩, .string ⟨List.toArray rc⟩, .string ⟨List.toArray tx⟩, .string ⟨List.toArray me⟩, .string ⟨List.toArray ne⟩, sk, ms, .int .i64 ta] := Blk.new _ _ _
 have hb0 : Below w.heap.size w (w.alloc (.cells #[.int .i64 a1, .int .i64 a2, .int .i64 a3, .bool lb, .string ⟨List.toArray pa⟩, .string ⟨List.toArray st⟩, .string ⟨List.toArray rc⟩, .string ⟨List.toArray tx⟩, .string ⟨List.toArray me⟩, .string ⟨List.toArray ne⟩, sk, ms, .int .i64 ta] 27)) := Below.allocS (Below.refl _ _) _
 have B1 := B0.alloc (.cells #[.int .i64 d1, .int .i64 d2, .int .i64 d3, .bool eb, .string ⟨List.toArray pb⟩, .string ⟨List.toArray su⟩, .string ⟨List.toArray rd⟩, .string ⟨List.toArray ty⟩, .string ⟨List.toArray mf⟩, .string ⟨List.toArray nf⟩, sk2, ms2, .int .i64 tb] 27)
 have hb1 := Below.allocS hb0 (.cells #[.int .i64 d1, .int .i64 d2, .int .i64 d3, .bool eb, .string ⟨List.toArray pb⟩, .string ⟨List.toArray su⟩, .string ⟨List.toArray rd⟩, .string ⟨List.toArray ty⟩, .string ⟨List.toArray mf⟩, .string ⟨List.toArray nf⟩, sk2, ms2, .int .i64 tb] 27)
 have C1 : Blk ((w.alloc (.cells #[.int .i64 a1, .int .i64 a2, .int .i64 a3, .bool lb, .string ⟨List.toArray pa⟩, .string ⟨List.toArray st⟩, .string ⟨List.toArray rc⟩, .string ⟨List.toArray tx⟩, .string ⟨List.toArray me⟩, .string ⟨List.toArray ne⟩, sk, ms, .int .i64 ta] 27)).alloc (.cells #[.int .i64 d1, .int .i64 d2, .int .i64 d3, .bool eb, .string ⟨List.toArray pb⟩, .string ⟨List.toArray su⟩, .string ⟨List.toArray rd⟩, .string ⟨List.toArray ty⟩, .string ⟨List.toArray mf⟩, .string ⟨List.toArray nf⟩, sk2, ms2, .int .i64 tb] 27)) (w.heap.size + 1) #[.int .i64 d1, .int .i64 d2, .int .i64 d3, .bool eb, .string ⟨List.toArray pb⟩, .string ⟨List.toArray su⟩, .string ⟨List.toArray rd⟩, .string ⟨List.toArray ty⟩, .string ⟨List.toArray mf⟩, .string ⟨List.toArray nf⟩, sk2, ms2, .int .i64 tb] := Blk.new' (by simp)
 have q1 := fun W (hb : Below w.heap.size w W) => hd_encode a1 a2 a3 lb pa st rc tx me ne K sk W (h1.keep hb)
 have q2 := fun W (hb : Below w.heap.size w W) => hd_encode d1 d2 d3 eb pb su rd ty mf nf K2 sk2 W (h3.keep hb)
 simp only
 generalize encHR ⟨a1, a2, a3, lb, pa, st, rc, tx, me, ne, K⟩ = x at *
 generalize encHR ⟨d1, d2, d3, eb, pb, su, rd, ty, mf, nf, K2⟩ = y at *
 obtain ⟨x, xc⟩ := x
 obtain ⟨y, yc⟩ := y
 simp only at q1 q2 ⊢
 obtain ⟨b1, b2, b3⟩ := id B1
 go_enter Tryz.func71, Tryz.ntmps71
 go_wp2_with fail
 refine (q1 _ hb1).mono ?_
 rintro e w1 ⟨rfl, hb⟩
 have hb2 := hb1.trans (hb.mono hb1.size)
 have C2 := C1.keep hb
 clear b1 b2 b3 q1 hb B0 hb0 B1 C1 hb1
 obtain ⟨c1, c2, c3⟩ := id C2
 go_wp2_with fail
 refine (q2 _ hb2).mono ?_
 rintro e w2 ⟨rfl, hb⟩
 have hb3 := hb2.trans (hb.mono hb2.size)
 clear c1 c2 c3 q2 hb C2 hb2
 go_wp2_with fail
 go_ret
 exact ⟨by first | rfl | (exact ret_bool (by simp)), hb3⟩
theorem tr_stale (p : Nat) (m : Value) (span : Int) (jp : Value) (v : Value) (t : Tr) (now : Int) (hs : 0 ≤ span ∧ span ≤ 1099511627776) (hn : -9223372036854775808 ≤ now ∧ now ≤ 9223372036854775807) (w : World) (B : Blk w p #[m, .int .i64 span, jp]) (hv : TV w v t) :
  Calls Tryz.prog 78 #[.pointer (some ⟨p, 0, none⟩), v, .int .i64 now] w fun e w' => e = .returned (.bool (decide (0 ≤ now) && decide (t.at_ ≤ now - span))) ∧ Below w.heap.size w w' := by
 obtain ⟨⟨a1, a2, a3, lb, pa, st, rc, tx, me, ne, K⟩, L, ta⟩ := t
 obtain ⟨sk, ms, rfl, h1, h2⟩ := hv
 have B0 : Blk (w.alloc (.cells #[.int .i64 a1, .int .i64 a2, .int .i64 a3, .bool lb, .string ⟨List.toArray pa⟩, .string ⟨List.toArray st⟩, .string ⟨List.toArray rc⟩, .string ⟨List.toArray tx⟩, .string ⟨List.toArray me⟩, .string ⟨List.toArray ne⟩, sk, ms, .int .i64 ta] 27)) w.heap.size #[.int .i64 a1, .int .i64 a2, .int .i64 a3, .bool lb, .string ⟨List.toArray pa⟩, .string ⟨List.toArray st⟩, .string ⟨List.toArray rc⟩, .string ⟨List.toArray tx⟩, .string ⟨List.toArray me⟩, .string ⟨List.toArray ne⟩, sk, ms, .int .i64 ta] := Blk.new _ _ _
 have hb0 : Below w.heap.size w (w.alloc (.cells #[.int .i64 a1, .int .i64 a2, .int .i64 a3, .bool lb, .string ⟨List.toArray pa⟩, .string ⟨List.toArray st⟩, .string ⟨List.toArray rc⟩, .string ⟨List.toArray tx⟩, .string ⟨List.toArray me⟩, .string ⟨List.toArray ne⟩, sk, ms, .int .i64 ta] 27)) := Below.allocS (Below.refl _ _) _
 have C0 := B.alloc (.cells #[.int .i64 a1, .int .i64 a2, .int .i64 a3, .bool lb, .string ⟨List.toArray pa⟩, .string ⟨List.toArray st⟩, .string ⟨List.toArray rc⟩, .string ⟨List.toArray tx⟩, .string ⟨List.toArray me⟩, .string ⟨List.toArray ne⟩, sk, ms, .int .i64 ta] 27)
 obtain ⟨b1, b2, b3⟩ := id B0
 obtain ⟨c1, c2, c3⟩ := id C0
 simp only
 by_cases g0 : 0 ≤ now
 ·have e1 : decide (0 ≤ now) = true := by simpa using g0
  have w1 : IntKind.i64.wrap (now - span) = now - span := by rw [IntKind.wrap_i64]; omega
  rw [e1, Bool.true_and]
  clear g0 B C0 B0
  go_enter Tryz.func78, Tryz.ntmps78
  go_wp2_with fail
  go_quiet (fail)
  go_wp2_with fail
  go_ret
  exact ⟨by first | rfl | (exact ret_bool (by simp)), below_drewN hb0 _⟩
 ·have e1 : decide (0 ≤ now) = false := by simpa using g0
  rw [e1, Bool.false_and]
  clear g0 B C0 B0
  go_enter Tryz.func78, Tryz.ntmps78
  go_wp2_with fail
  go_quiet (fail)
  go_wp2_with fail
  go_ret
  exact ⟨rfl, below_drewN hb0 _⟩
end Go.Proofs.YthgjdaomcpinaaaGreatDoor
namespace Go.Proofs.YthgjdaomcpinaaaGreatDoor
open Go.RowKit Pl
theorem member_fields : ((Tryz.prog).fieldsOf 130).toList.map (fun f => (f.type, f.offset, f.name == "_")) = [(9, 0, false), (3, 1, false)] := by kernel_rfl
@[go_sem high] theorem eq_member (n : Bs) (k : Int) (n2 : Bs) (k2 : Int) (d : Nat) (w : World) :
  (Op.equalIn (d + 2) 130 (.agg #[.string ⟨List.toArray n⟩, .int .i64 k]) (.agg #[.string ⟨List.toArray n2⟩, .int .i64 k2])).run Tryz.prog w = .ok (decide (n = n2) && decide (k = k2)) w := by
 rw [run_equalIn_struct w (d + 1) 130 _ _ (by kernel_rfl) (by kernel_rfl)]
 have hf := member_fields
 generalize ((Tryz.prog).fieldsOf 130).toList = l at *
 rcases l with _ | ⟨f0, _ | ⟨f1, _ | ⟨f2, l⟩⟩⟩ <;> simp at hf
 obtain ⟨⟨a1, a2, a3⟩, ⟨b1, b2, b3⟩⟩ := hf
 have q0 : ∀ (n : Bs) (k : Int), (part 9 #[.string ⟨List.toArray n⟩, .int .i64 k] 0).run Tryz.prog w = .ok (.string ⟨List.toArray n⟩) w := fun n k => run_part_plain w (by simp [Program.plainKey, Tryz.underlying9]) rfl
 have q1 : ∀ (n : Bs) (k : Int), (part 3 #[.string ⟨List.toArray n⟩, .int .i64 k] 1).run Tryz.prog w = .ok (.int .i64 k) w := fun n k => run_part_plain w (by simp [Program.plainKey, Tryz.underlying3]) rfl
 have e0 := run_equalIn_string (P := Tryz.prog) w d 9 ⟨List.toArray n⟩ ⟨List.toArray n2⟩ Tryz.underlying9
 have e1 := run_equalIn_int (P := Tryz.prog) w d 3 .i64 .i64 k k2 Tryz.underlying3
 rw [← beq_toListBytes, str_beq] at e0
 simp only [Op.eqFields, a1, a2, b1, b2, a3, b3, ne_eq, not_false_eq_true, if_true, Sem.run_bind, q0, q1, e0, e1, Result.andThen_ok]
 by_cases h0 : n = n2
 ·subst h0
  by_cases h1 : k = k2
  ·subst h1; simp [Sem.run_bind, Sem.run_ite, q0, q1, e0, e1]
  ·simp [Sem.run_bind, Sem.run_ite, q0, q1, e0, e1, h1]
 ·simp [Sem.run_bind, Sem.run_ite, q0, q1, e0, e1, h0]
theorem MS.drewN {w : World} {v : Value} {l : List (Bs × Int)} (h : MS w v l) (n : Nat) : MS (w.drewN n) v l := h.keep (below_drewN (Below.refl _ _) n)
theorem samemembers_any (u v : Value) (l m : List (Bs × Int)) (w : World) (hu : MS w u l) (hv : MS w v m) :
  Calls Tryz.prog 64 #[u, v] w fun e w' => e = .returned (.bool (decide (l = m))) ∧ ∃ n, w' = w.drewN n := by
 obtain ⟨a, c, rfl⟩ := hu.form
 obtain ⟨b, d, rfl⟩ := hv.form
 have hls := hu.small
 generalize hr : decide (l = m) = r
 have HR := Lib.hid hr
 clear hr
 by_cases hl : l.length = m.length
 ·have hl1 : ((l.length : Int) == (m.length : Int)) = true := by simp; omega
  have HL := Lib.hid hl
  clear hl
  go_enter Tryz.func64, Tryz.ntmps64
  go_wp2_with fail
  go_loopw [5, 6] (fun s5 s6 wr => ∃ (i : Nat) (q : Bool), i ≤ l.length ∧ s6 = .int .i64 i ∧ s5 = .bool q ∧ Hid ((q = true → l.take i = m.take i) ∧ (q = false → l ≠ m)) ∧ ∃ n, wr = w.drewN n) (fun _ s6 _ => l.length - (intOf s6).toNat)
  case atStart => exact ⟨0, true, by omega, rfl, rfl, Lib.hid ⟨fun _ => rfl, fun h => by cases h⟩, 0, rfl⟩
  case round =>
   obtain ⟨i, q, hi, rfl, rfl, HQ, nq, rfl⟩ := hrel
   cases q
   ·have HZ : Hid (r = false) := Lib.hid (by rw [← HR.out]; simp [HQ.out.2 rfl])
    clear HQ
    go_wp2_with fail
    go_ret
    exact ⟨by rw [HZ.out]; rfl, nq, rfl⟩
   ·by_cases hlt : i < l.length
    ·have hlt' : (i : Int) < (l.length : Int) := by omega
     have hlm : i < m.length := by rw [← HL.out]; exact hlt
     have hlm' : (i : Int) < (m.length : Int) := by omega
     obtain ⟨g, off, rfl, _, c1, c1'⟩ := hu.at i hlt
     obtain ⟨g2, off2, rfl, _, c2, c2'⟩ := hv.at i hlm
     have HS : Hid (l.take (i + 1) = m.take (i + 1) ↔ l.getD i ([], 0) = m.getD i ([], 0)) := Lib.hid (by
      rw [List.take_succ_eq_append_getElem hlt, List.take_succ_eq_append_getElem hlm, HQ.out.1 rfl, List.append_cancel_left_eq]
      simp [List.getD, List.getElem?_eq_getElem hlt, List.getElem?_eq_getElem hlm])
     have HD : Hid (l.getD i ([], 0) ≠ m.getD i ([], 0) → l ≠ m) := Lib.hid (fun h e => h (by rw [e]))
     generalize l.getD i ([], 0) = x at *
     generalize m.getD i ([], 0) = y at *
     obtain ⟨n1, p1⟩ := x
     obtain ⟨n2, p2⟩ := y
     simp only at c1 c1' c2 c2'
     have HU := Lib.hid hu
     have HV := Lib.hid hv
     clear hu hv
     go_wp2_with fail
     go_quiet (fail)
     go_wp2_with fail
     exact ⟨⟨i + 1, decide (n1 = n2) && decide (p1 = p2), by omega, by go_num, rfl, Lib.hid ⟨fun h => HS.out.2 (by simpa using h), fun h => HD.out (by simpa using h)⟩, _, rfl⟩, by simp [intOf]; omega⟩
    ·have hie : i = l.length := by omega
     have hd : decide ((i : Int) < (l.length : Int)) = false := by simp; omega
     have HZ : Hid (r = true) := Lib.hid (by
      rw [← HR.out]
      have h := HQ.out.1 rfl
      rw [hie, List.take_length, HL.out, List.take_length] at h
      simp [h])
     clear HQ
     go_wp2_with fail
     go_ret
     exact ⟨by rw [HZ.out]; rfl, nq, rfl⟩
 ·have hl1 : ((l.length : Int) == (m.length : Int)) = false := by rw [beq_eq_false_iff_ne]; omega
  have HZ : Hid (r = false) := Lib.hid (by rw [← HR.out]; simp; intro e; exact hl (by rw [e]))
  clear hl
  go_enter Tryz.func64, Tryz.ntmps64
  go_wp2_with fail
  go_loopw [5, 6] (fun s5 s6 wr => s5 = .bool false ∧ s6 = .int .i64 0 ∧ wr = w) (fun _ s6 _ => 0)
  case atStart => exact ⟨rfl, rfl, rfl⟩
  case round =>
   obtain ⟨rfl, rfl, rfl⟩ := hrel
   go_wp2_with fail
   go_ret
   exact ⟨by rw [HZ.out]; rfl, 0, rfl⟩
theorem any_set {w : World} {g n : Nat} (h : ∀ j, j < n → ∃ x : Value, w.cell? ⟨g, j, none⟩ = some x) (i : Nat) (hi : i < n) (v : Value) : ∀ j, j < n → ∃ x : Value, (w.setCell ⟨g, i, none⟩ v).cell? ⟨g, j, none⟩ = some x := by
 intro j hj
 by_cases e : j = i
 ·subst e
  obtain ⟨x, hx⟩ := h j hj
  exact ⟨_, World.cell?_setCell_same _ _ _ hx⟩
 ·obtain ⟨y, hy⟩ := h j hj
  exact ⟨y, by rw [World.cell?_setCell_other _ _ _ _ (fun h => e (by injection h with _ h2 _; exact h2.symm))]; exact hy⟩
theorem MSrc.any {w : World} {g : Nat} {l : List (Bs × Int)} (h : MSrc w g 0 l) : ∀ j, j < l.length * 2 → ∃ x : Value, w.cell? ⟨g, j, none⟩ = some x := by
 intro j hj
 obtain ⟨i, hi | hi⟩ : ∃ i, j = i * 2 ∨ j = i * 2 + 1 := ⟨j / 2, by omega⟩
 ·subst hi
  have := (h i (by omega)).1
  rw [Nat.zero_add] at this
  exact ⟨_, this⟩
 ·subst hi
  have := (h i (by omega)).2
  rw [Nat.zero_add] at this
  exact ⟨_, this⟩
theorem spoilm_any (base : Nat) (v : Value) (l : List (Bs × Int)) (w : World) (hv : MRow w base v l) :
  Calls Tryz.prog 95 #[v] w fun e w' => e = .returned (.tuple #[]) ∧ Mod v.ownBlock.toList w w' := by
 rcases hv.cells with ⟨rfl, rfl⟩ | ⟨g, cap, rfl, h1, h2, h3, h4, h5, h6⟩
 ·go_enter Tryz.func95, Tryz.ntmps95
  go_wp2_with fail
  go_loopw [2] (fun s2 wr => s2 = .int .i64 0 ∧ wr = w) (fun s2 _ => 0)
  case atStart => exact ⟨rfl, rfl⟩
  case round =>
   obtain ⟨rfl, rfl⟩ := hrel
   go_wp2_with fail
   refine bodyPost_end (results_none rfl _ _ _) rfl ?_
   exact ⟨rfl, Mod.refl _ _⟩
 ·unfold maxLen at h4
  have H5 := Lib.hid h5.any
  have H6 := Lib.hid h6
  clear h5 h6 hv
  go_enter Tryz.func95, Tryz.ntmps95
  go_wp2_with fail
  go_loopw [2] (fun s2 wr => ∃ i : Nat, i ≤ l.length ∧ s2 = .int .i64 i ∧ Hid (∀ j, j < l.length * 2 → ∃ x : Value, wr.cell? ⟨g, j, none⟩ = some x) ∧ Hid (∀ o, wr.frozen? ⟨g, o, none⟩ = false) ∧ Mod [g] w wr) (fun s2 _ => l.length - (intOf s2).toNat)
  case atStart => exact ⟨0, by omega, rfl, H5, H6, Mod.refl _ _⟩
  case round =>
   obtain ⟨i, hi, rfl, HC, HF, hm⟩ := hrel
   by_cases hlt : i < l.length
   ·have hlt' : (i : Int) < (l.length : Int) := by omega
    obtain ⟨x, hx⟩ := HC.out (i * 2) (by omega)
    obtain ⟨y, hy⟩ := HC.out (i * 2 + 1) (by omega)
    have hf := HF.out (i * 2)
    have hf2 := HF.out (i * 2 + 1)
    go_wp2_with fail
    refine ⟨⟨i + 1, by omega, by go_num, Lib.hid (any_set (any_set HC.out _ (by omega) _) _ (by omega) _), Lib.hid (fun o => by rw [World.frozen?_setCell, World.frozen?_setCell]; exact HF.out o), (hm.setCell (.inl (by simp)) _).setCell (.inl (by simp)) _⟩, by simp [intOf]; omega⟩
   ·have hlt' : ¬ (i : Int) < (l.length : Int) := by omega
    go_wp2_with fail
    refine bodyPost_end (results_none rfl _ _ _) rfl ?_
    exact ⟨rfl, hm⟩
end Go.Proofs.YthgjdaomcpinaaaGreatDoor
