/- TLoadA, GTr, Shelf9, SortZ, Ints, VMap, VHts, VAt, VChg, VCom. -/
import Derived.Shelf.SlIterI.Nil
import Derived.Test.YtjppbomngnomhaaGreatDoorMx19
set_option linter.unnecessarySimpa false
set_option linter.unusedSimpArgs false
set_option linter.unusedVariables false
set_option maxRecDepth 100000
set_option maxHeartbeats 32000000
namespace Go.Proofs.YtjppbomngnomhaaGreatDoor
open Go.RowKit Go.WideMaps Go.Maps Go.Sort Pl
theorem load_any (T : List Ent) (base b sp l : Nat) (hsh : ShortE T) : ∀ (f : Nat) (s place : Bs) (bel : Bool) (m : Nat) (c : Int) (w : World), s.length ≤ maxLen → place.length ≤ 16 → 17 ≤ place.length + f → (c = 0 → m ≤ 1024) → KT w → Sto w base sp b T → Ldr w l sp m c →
  Calls Tryz.prog 50 #[.pointer (some ⟨l, 0, none⟩), .string ⟨List.toArray s⟩, .string ⟨List.toArray place⟩, .bool bel] w (LdP w l sp (loadK T f s place.length bel (m, c))) := by
 intro f
 induction f with
 | zero => intro s place bel m c w _ h1 h2; omega
 | succ f ih =>
  intro s place bel m c w hs hp hf hm hk hS hL
  by_cases hc : c = 0
  ·subst hc
   exact loadN_any T f base b sp l s place bel m hsh hs hp (hm rfl) hf w hk hS hL (fun s' place' bel' m' c' W h1 h2 h3 h4 h5 h6 h7 => ih s' place' bel' m' c' W h1 h2 (by omega) h4 h5 h6 h7)
  ·rw [loadK_err T _ _ _ _ (m, c) hc]
   exact load_stop l sp m c hc s place bel w hL
def loadR (T : List Ent) (root : Bs) : Tri × Int := if root = [] then (.nil, 0) else ((loadK T 17 root 0 false (0, 0)).1, (loadK T 17 root 0 false (0, 0)).2.2)
def LoadQ (w : World) (r : Tri × Int) (e : Ending) (w' : World) : Prop :=
 Below w.heap.size w w' ∧ ((r.2 ≠ 0 ∧ e = .returned (.tuple #[.pointer none, .int .i64 r.2])) ∨ (r.2 = 0 ∧ ∃ pt, e = .returned (.tuple #[.pointer (some ⟨pt, 0, none⟩), .int .i64 0]) ∧ TAt w' pt r.1))
theorem tnewT_any (w : World) : Calls Tryz.prog 12 #[] w fun e w' => ∃ pt, e = .returned (.pointer (some ⟨pt, 0, none⟩)) ∧ Below w.heap.size w w' ∧ TAt w' pt .nil ∧ w.heap.size ≤ pt := by
 have HB : Hid (Below w.heap.size w (w.alloc (.cells #[.pointer none] 68))) := Lib.hid (Below.allocS (Below.refl _ _) _)
 have HA : Hid (TAt (w.alloc (.cells #[.pointer none] 68)) w.heap.size .nil) := Lib.hid ⟨none, Blk.new _ _ _, .nil⟩
 go_enter Tryz.func12, Tryz.ntmps12
 go_wp2_with fail
 go_ret
 exact ⟨_, rfl, HB.out, HA.out, Nat.le_refl _⟩
theorem tload_any (T : List Ent) (base b sp : Nat) (hsh : ShortE T) (root : Bs) (hr : root.length ≤ maxLen) (w : World) (hk : KT w) (hS : Sto w base sp b T) :
  Calls Tryz.prog 31 #[.pointer (some ⟨sp, 0, none⟩), .string ⟨List.toArray root⟩] w (LoadQ w (loadR T root)) := by
 by_cases h0 : root = []
 ·subst h0
  have HE : Hid (loadR T [] = (.nil, 0)) := Lib.hid rfl
  rw [HE.out]
  have HN := Lib.hid (tnewT_any w)
  clear hk hS
  go_enter Tryz.func31, Tryz.ntmps31
  go_wp2_with fail
  refine HN.out.mono ?_
  rintro e w1 ⟨pt, rfl, hb, hT, _⟩
  go_wp2_with fail
  go_ret2
  exact ⟨hb, .inr ⟨rfl, pt, rfl, hT⟩⟩
 ·have h1 : root.isEmpty = false := by simpa using h0
  have h2 : (root == []) = false := by simpa using h0
  have HE : Hid (loadR T root = ((loadK T 17 root 0 false (0, 0)).1, (loadK T 17 root 0 false (0, 0)).2.2)) := Lib.hid (if_neg h0)
  have hbL : Below w.heap.size w (w.alloc (.cells #[.pointer (some ⟨sp, 0, none⟩), .int .i64 0, .int .i64 0] 96)) := Below.allocS (Below.refl _ _) _
  have hL : Ldr (w.alloc (.cells #[.pointer (some ⟨sp, 0, none⟩), .int .i64 0, .int .i64 0] 96)) w.heap.size sp 0 0 := ⟨Blk.new _ _ _, Typ.new _ _ _⟩
  have HQ := Lib.hid (load_any T base b sp w.heap.size hsh 17 root [] false 0 0 _ hr (by simp) (by simp) (fun _ => by omega) (hk.keep hbL) (hS.keep hbL) hL)
  rw [HE.out]
  simp only [List.length_nil] at HQ
  have HBL := Lib.hid hbL
  clear h0 hk hS hbL hL HE
  generalize loadK T 17 root 0 false (0, 0) = r at *
  obtain ⟨t, m, c⟩ := r
  go_enter Tryz.func31, Tryz.ntmps31
  go_wp2_with fail
  refine HQ.out.mono ?_
  rintro e w1 ⟨p, rfl, hq, hK⟩
  have hb1 : Below w.heap.size w w1 := Below.mod HBL.out hq.mod HBL.out.size (by simp)
  have c2 : w1.cell? ⟨w.heap.size, 2, none⟩ = some (.int .i64 c) := hq.ldr.blk.cell 2
  have HK := Lib.hid hK
  have HB1 := Lib.hid hb1
  clear hq hK hb1
  by_cases hc : c = 0
  ·subst hc
   have HB2 : ∀ v, Hid (Below w.heap.size w (w1.alloc (.cells #[v] 68))) := fun v => Lib.hid (Below.allocS HB1.out _)
   cases p
   ·have HT : Hid (TAt (w1.alloc (.cells #[.pointer none] 68)) w1.heap.size t) := Lib.hid ⟨none, Blk.new _ _ _, HK.out.keep (Below.allocS (Below.refl _ _) _)⟩
    rw [ptV_none]
    go_wp2_with fail
    go_ret2
    exact ⟨(HB2 _).out, .inr ⟨rfl, _, rfl, HT.out⟩⟩
   ·rename_i b2
    have HT : Hid (TAt (w1.alloc (.cells #[.pointer (some ⟨b2, 0, none⟩)] 68)) w1.heap.size t) := Lib.hid ⟨some b2, Blk.new _ _ _, HK.out.keep (Below.allocS (Below.refl _ _) _)⟩
    rw [ptV_some]
    go_wp2_with fail
    go_ret2
    exact ⟨(HB2 _).out, .inr ⟨rfl, _, rfl, HT.out⟩⟩
  ·have z1 : (c == 0) = false := by simpa using hc
   have z2 : (c != 0) = true := by simpa using hc
   have HC := Lib.hid hc
   clear hc
   go_wp2_with fail
   go_region
   go_wp2_with fail
   go_ret2
   exact ⟨HB1.out.drew, .inl ⟨HC.out, rfl⟩⟩
end Go.Proofs.YtjppbomngnomhaaGreatDoor
namespace Go.Proofs.YtjppbomngnomhaaGreatDoor
open Go.RowKit Pl
structure GTr (t : Tri) (L : List It) : Prop where
 rep : RepT t L
 can : canT t
 good : GoodI L
 keys : ∀ x ∈ L, x.1 ≠ []
theorem GTr.nil : GTr .nil [] := ⟨RepT.start, trivial, GoodI.nil, fun _ h => (by cases h)⟩
theorem GTr.put {t : Tri} {L : List It} (h : GTr t L) {k v : Bs} (he : putE L k v = 0) : GTr (Pl.putT t (ofP k) v) (insI k v L) := by
 obtain ⟨g1, g2, g3, g4⟩ := h.good.put k v he
 have hv : v.length ≤ 32 := by
  rcases putE_cases L k v with ⟨h1, _⟩ | ⟨h1, _⟩ | ⟨_, _, h2, _⟩
  ·rw [he] at h1; cases h1
  ·rw [he] at h1; cases h1
  ·exact h2.2
 refine ⟨h.rep.put k v g2 g3, can_put t _ v 16 h.rep.ok h.can (ofP_fit k) g3 hv, g1, fun x hx => ?_⟩
 rcases (insI_mem k v L h.good.rise x).1 hx with h1 | h1
 ·rw [h1]; exact g4
 ·exact h.keys x h1.1
theorem outI_len (k : Bs) (L : List It) : (outI k L).length ≤ L.length := List.length_filter_le _ _
theorem GTr.del {t : Tri} {L : List It} (h : GTr t L) {k : Bs} (he : Pl.look t (ofP k) ≠ []) : GTr (delT t (ofP k)) (outI k L) := by
 refine ⟨h.rep.del h.can k he, (del_law t _ 16 h.rep.ok h.can he).can, ⟨List.Pairwise.filter _ h.good.rise, fun x hx => h.good.keys x (List.mem_filter.1 hx).1, Nat.le_trans (outI_len k L) h.good.many⟩, fun x hx => h.keys x (List.mem_filter.1 hx).1⟩
theorem GTr.nodes {t : Tri} {L : List It} (h : GTr t L) : (nodesT t).length ≤ 17 * L.length := by
 have := (nodes_len t 16 h.rep.ok h.can).1
 rw [h.rep.len] at this
 exact this
theorem tputG_any (pt : Nat) (t : Tri) (L : List It) (hG : GTr t L) (k v : Bs) (hk : k.length ≤ 9223372036854775807) (hvl : v.length ≤ 9223372036854775807) (w : World) (hkt : KT w) (hT : TAt w pt t) :
  Calls Tryz.prog 28 #[.pointer (some ⟨pt, 0, none⟩), .string ⟨List.toArray k⟩, .string ⟨List.toArray v⟩] w (LoadQ w (Pl.putT t (ofP k) v, putE L k v)) := by
 rcases putE_cases L k v with ⟨h, h1⟩ | ⟨h, h1, h2 | ⟨h2, h3, h4⟩⟩ | ⟨h, h1, h2, h3⟩
 ·rw [h]
  refine (tput_no1 pt k v hk h1 w).mono ?_
  rintro e w' ⟨rfl, hb⟩
  exact ⟨hb, .inl ⟨by simp, rfl⟩⟩
 ·rw [h]
  refine (tput_no2 pt k v hk hvl h1 h2 w).mono ?_
  rintro e w' ⟨rfl, hb⟩
  exact ⟨hb, .inl ⟨by simp, rfl⟩⟩
 ·rw [h]
  refine (tput_no3 pt t L k v h1 h2 hG.rep hG.good.many h3 h4 w hT).mono ?_
  rintro e w' ⟨rfl, hb⟩
  exact ⟨hb, .inl ⟨by simp, rfl⟩⟩
 ·rw [h]
  refine (tput_yes pt t L k v h1 h2 hG.rep hG.good.many h3 w hkt hT).mono ?_
  rintro e w' ⟨pt', rfl, hb, hT'⟩
  exact ⟨hb, .inr ⟨rfl, pt', rfl, hT'⟩⟩
theorem tdelG_any (pt : Nat) (t : Tri) (L : List It) (hG : GTr t L) (k : Bs) (hk : k.length ≤ 9223372036854775807) (w : World) (hkt : KT w) (hT : TAt w pt t) :
  Calls Tryz.prog 27 #[.pointer (some ⟨pt, 0, none⟩), .string ⟨List.toArray k⟩] w (LoadQ w (delT t (ofP k), (getK t k).2)) := by
 refine (tdel_any pt t hG.rep.ok hG.can k hk w hkt hT).mono ?_
 rintro e w' ⟨hb, ⟨h, rfl⟩ | ⟨h, pt', rfl, hT'⟩⟩
 ·exact ⟨hb, .inl ⟨h, rfl⟩⟩
 ·exact ⟨hb, .inr ⟨h, pt', rfl, hT'⟩⟩
end Go.Proofs.YtjppbomngnomhaaGreatDoor
namespace Go.Proofs.YtjppbomngnomhaaGreatDoor
open Go.Shelf
def keysT_ren : Go.Shelf.Ren := ⟨fun | 7 => 25 | 10 => 40 | n => n, fun | 23 => 55 | 26 => 3 | 3 => 59 | 28 => 62 | 0 => 0 | 27 => 61 | 33 => 89 | 4 => 4 | n => n, fun | n => n⟩
theorem keysT : Go.Proofs.SlLaysZI.n7 Tryz.prog keysT_ren := {
 mixed := by kernel_rfl
 f7 := ⟨Tryz.f25.name, by decide, Tryz.func25.trans (congrArg some (by kernel_rfl))⟩
 f10 := ⟨Tryz.f40.name, by decide, Tryz.func40.trans (congrArg some (by kernel_rfl))⟩
 t0 := Tryz.underlying0
 a0 := Tryz.isAgg0
 z0 := Tryz.sizeOf0
 v0 := Tryz.zeroValue0
 t4 := Tryz.underlying4
 a4 := Tryz.isAgg4
 z4 := Tryz.sizeOf4
 v4 := Tryz.zeroValue4
 t23 := Tryz.underlying55
 a23 := Tryz.isAgg55
 z23 := Tryz.sizeOf55
 v23 := Tryz.zeroValue55
 t26 := Tryz.underlying3
 a26 := Tryz.isAgg3
 z26 := Tryz.sizeOf3
 v26 := Tryz.zeroValue3
 t27 := Tryz.underlying61
 a27 := Tryz.isAgg61
 z27 := Tryz.sizeOf61
 v27 := Tryz.zeroValue61
 t28 := Tryz.underlying62
 a28 := Tryz.isAgg62
 z28 := Tryz.sizeOf62
 v28 := Tryz.zeroValue62
 t33 := Tryz.underlying89
 a33 := Tryz.isAgg89
 z33 := Tryz.sizeOf89
 v33 := Tryz.zeroValue89 }
def sortedT_ren : Go.Shelf.Ren := ⟨fun | 6 => 24 | 8 => 38 | 9 => 39 | 11 => 57 | 13 => 59 | 12 => 58 | 23 => 87 | 24 => 88 | 14 => 78 | 15 => 79 | 16 => 80 | 17 => 81 | 18 => 82 | 19 => 83 | 20 => 84 | 21 => 85 | 22 => 86 | 25 => 100 | 26 => 101 | 27 => 102 | 28 => 103 | 29 => 104 | 30 => 105 | 31 => 126 | n => n, fun | 26 => 3 | 28 => 62 | 24 => 33 | 0 => 0 | 3 => 3 | 37 => 106 | 48 => 117 | 50 => 135 | 4 => 4 | 40 => 126 | 39 => 125 | 45 => 131 | 5 => 5 | 9 => 9 | 51 => 148 | 55 => 152 | 57 => 174 | 58 => 175 | 33 => 89 | n => n, fun | n => n⟩
theorem sortedT : Go.Proofs.SlLaysZI.n6 Tryz.prog sortedT_ren := {
 mixed := by kernel_rfl
 f6 := ⟨Tryz.f24.name, by decide, Tryz.func24.trans (congrArg some (by kernel_rfl))⟩
 f8 := ⟨Tryz.f38.name, by decide, Tryz.func38.trans (congrArg some (by kernel_rfl))⟩
 f11 := ⟨Tryz.f57.name, by decide, Tryz.func57.trans (congrArg some (by kernel_rfl))⟩
 t0 := Tryz.underlying0
 a0 := Tryz.isAgg0
 z0 := Tryz.sizeOf0
 v0 := Tryz.zeroValue0
 t24 := Tryz.underlying33
 a24 := Tryz.isAgg33
 z24 := Tryz.sizeOf33
 v24 := Tryz.zeroValue33
 t26 := Tryz.underlying3
 a26 := Tryz.isAgg3
 z26 := Tryz.sizeOf3
 v26 := Tryz.zeroValue3
 t28 := Tryz.underlying62
 a28 := Tryz.isAgg62
 z28 := Tryz.sizeOf62
 v28 := Tryz.zeroValue62
 i26 := by kernel_rfl }
def sortT_ren : Go.Shelf.Ren := ⟨fun | 5 => 39 | 8 => 59 | 7 => 58 | 19 => 87 | 20 => 88 | 10 => 78 | 11 => 79 | 12 => 80 | 13 => 81 | 14 => 82 | 15 => 83 | 16 => 84 | 17 => 85 | 18 => 86 | 30 => 100 | 31 => 101 | 32 => 102 | 33 => 103 | 34 => 104 | 35 => 105 | 40 => 126 | n => n, fun | 23 => 33 | 25 => 3 | 3 => 3 | 32 => 106 | 22 => 33 | 0 => 0 | 44 => 117 | 46 => 135 | 4 => 4 | 36 => 126 | 35 => 125 | 41 => 131 | 5 => 5 | 9 => 9 | 53 => 148 | 57 => 152 | 63 => 174 | 64 => 175 | n => n, fun | n => n⟩
theorem sortT : Go.Proofs.SlLaysM.n5 Tryz.prog sortT_ren := {
 mixed := by kernel_rfl
 f5 := ⟨Tryz.f39.name, by decide, Tryz.func39.trans (congrArg some (by kernel_rfl))⟩
 f7 := ⟨Tryz.f58.name, by decide, Tryz.func58.trans (congrArg some (by kernel_rfl))⟩
 f8 := Tryz.func59.trans (congrArg some (by kernel_rfl))
 f10 := ⟨Tryz.f78.name, by decide, Tryz.func78.trans (congrArg some (by kernel_rfl))⟩
 f11 := ⟨Tryz.f79.name, by decide, Tryz.func79.trans (congrArg some (by kernel_rfl))⟩
 f12 := ⟨Tryz.f80.name, by decide, Tryz.func80.trans (congrArg some (by kernel_rfl))⟩
 f13 := ⟨Tryz.f81.name, by decide, Tryz.func81.trans (congrArg some (by kernel_rfl))⟩
 f14 := ⟨Tryz.f82.name, by decide, Tryz.func82.trans (congrArg some (by kernel_rfl))⟩
 f15 := ⟨Tryz.f83.name, by decide, Tryz.func83.trans (congrArg some (by kernel_rfl))⟩
 f16 := ⟨Tryz.f84.name, by decide, Tryz.func84.trans (congrArg some (by kernel_rfl))⟩
 f17 := ⟨Tryz.f85.name, by decide, Tryz.func85.trans (congrArg some (by kernel_rfl))⟩
 f18 := ⟨Tryz.f86.name, by decide, Tryz.func86.trans (congrArg some (by kernel_rfl))⟩
 f19 := Tryz.func87.trans (congrArg some (by kernel_rfl))
 f20 := Tryz.func88.trans (congrArg some (by kernel_rfl))
 f30 := ⟨Tryz.f100.name, by decide, Tryz.func100.trans (congrArg some (by kernel_rfl))⟩
 f31 := Tryz.func101.trans (congrArg some (by kernel_rfl))
 f32 := Tryz.func102.trans (congrArg some (by kernel_rfl))
 f33 := ⟨Tryz.f103.name, by decide, Tryz.func103.trans (congrArg some (by kernel_rfl))⟩
 f34 := ⟨Tryz.f104.name, by decide, Tryz.func104.trans (congrArg some (by kernel_rfl))⟩
 f35 := ⟨Tryz.f105.name, by decide, Tryz.func105.trans (congrArg some (by kernel_rfl))⟩
 f40 := ⟨Tryz.f126.name, by decide, Tryz.func126.trans (congrArg some (by kernel_rfl))⟩
 t0 := Tryz.underlying0
 a0 := Tryz.isAgg0
 z0 := Tryz.sizeOf0
 v0 := Tryz.zeroValue0
 t3 := Tryz.underlying3
 a3 := Tryz.isAgg3
 z3 := Tryz.sizeOf3
 v3 := Tryz.zeroValue3
 t4 := Tryz.underlying4
 a4 := Tryz.isAgg4
 z4 := Tryz.sizeOf4
 v4 := Tryz.zeroValue4
 t5 := Tryz.underlying5
 a5 := Tryz.isAgg5
 z5 := Tryz.sizeOf5
 v5 := Tryz.zeroValue5
 t9 := Tryz.underlying9
 a9 := Tryz.isAgg9
 z9 := Tryz.sizeOf9
 v9 := Tryz.zeroValue9
 t22 := Tryz.underlying33
 a22 := Tryz.isAgg33
 z22 := Tryz.sizeOf33
 v22 := Tryz.zeroValue33
 t23 := Tryz.underlying33
 a23 := Tryz.isAgg33
 z23 := Tryz.sizeOf33
 v23 := Tryz.zeroValue33
 t25 := Tryz.underlying3
 a25 := Tryz.isAgg3
 z25 := Tryz.sizeOf3
 v25 := Tryz.zeroValue3
 t32 := Tryz.underlying106
 a32 := Tryz.isAgg106
 z32 := Tryz.sizeOf106
 v32 := Tryz.zeroValue106
 t35 := Tryz.underlying125
 a35 := Tryz.isAgg125
 z35 := Tryz.sizeOf125
 v35 := Tryz.zeroValue125
 t36 := Tryz.underlying126
 a36 := Tryz.isAgg126
 z36 := Tryz.sizeOf126
 v36 := Tryz.zeroValue126
 t41 := Tryz.underlying131
 a41 := Tryz.isAgg131
 z41 := Tryz.sizeOf131
 v41 := Tryz.zeroValue131
 t44 := Tryz.underlying117
 a44 := Tryz.isAgg117
 z44 := Tryz.sizeOf117
 v44 := Tryz.zeroValue117
 t46 := Tryz.underlying135
 a46 := Tryz.isAgg135
 z46 := Tryz.sizeOf135
 v46 := Tryz.zeroValue135
 t53 := Tryz.underlying148
 a53 := Tryz.isAgg148
 z53 := Tryz.sizeOf148
 v53 := Tryz.zeroValue148
 t57 := Tryz.underlying152
 a57 := Tryz.isAgg152
 z57 := Tryz.sizeOf152
 v57 := Tryz.zeroValue152
 t63 := Tryz.underlying174
 a63 := Tryz.isAgg174
 z63 := Tryz.sizeOf174
 v63 := Tryz.zeroValue174
 t64 := Tryz.underlying175
 a64 := Tryz.isAgg175
 z64 := Tryz.sizeOf175
 v64 := Tryz.zeroValue175 }
end Go.Proofs.YtjppbomngnomhaaGreatDoor
namespace Go.Proofs.YtjppbomngnomhaaGreatDoor
open Go.RowKit Go.WideMaps Go.Maps Go.Sort Go.Shelf
def sortZ (l : List Int) : List Int := l.mergeSort leI
theorem sortZ_len (l : List Int) : (sortZ l).length = l.length := List.length_mergeSort l
theorem sortZ_mem {l : List Int} {x : Int} : x ∈ sortZ l ↔ x ∈ l := List.mem_mergeSort
theorem sortZ_nodup {l : List Int} (h : l.Nodup) : (sortZ l).Nodup := (List.mergeSort_perm l leI).nodup_iff.2 h
theorem keys_permI {H : Type} {w : World} {R : Value → Option (DataW H × List MemPlace)} {b n : Nat} {D : DataW H} {ss : List Int} (ho : w.ownsMap Tryz.prog 3 R b n D) (hn : ss.Nodup) (hm : ∀ k : Int, Maps.has D (.int .i64 k) = decide (k ∈ ss)) : ss.Perm (intKeys D) :=
 CollectedI.perm (left := fun _ => false) ⟨hn, fun x => by simp [hm]⟩ ho (int_keyed Tryz.underlying3) Tryz.underlying3 (fun _ => rfl)
end Go.Proofs.YtjppbomngnomhaaGreatDoor
namespace Go.Proofs.YtjppbomngnomhaaGreatDoor
open Go.RowKit
def zv (l : List Int) : List Value := l.map fun c => Value.int .i64 c
def ZRow (w : World) (base : Nat) (v : Value) (l : List Int) : Prop := w.ownsRow base 3 1 v l.length (zv l)
theorem ZRow.cells {w : World} {base : Nat} {v : Value} {l : List Int} (h : ZRow w base v l) :
  (v = .slice none 0 0 ∧ l = []) ∨ ∃ g cap, v = .slice (some ⟨g, 0, none⟩) l.length cap ∧ base ≤ g ∧ g < w.heap.size ∧ l.length ≤ cap ∧ cap ≤ maxLen ∧ (∀ i, i < l.length → w.cell? ⟨g, i, none⟩ = some (.int .i64 (l.getD i 0))) ∧ ∀ o, w.frozen? ⟨g, o, none⟩ = false := by
 rcases h.2 with ⟨h1, h2⟩ | ⟨g, cap, cur, hv, hb, hg, hn, hm, hc, ht⟩
 ·exact .inl ⟨h1, List.length_eq_zero_iff.1 h2⟩
 ·refine .inr ⟨g, cap, hv, hb, ?_, hn, hm, fun i hi => ?_, fun o => ?_⟩
  ·rcases Nat.lt_or_ge g w.heap.size with hlt | hge
   ·exact hlt
   ·rw [Array.getElem?_eq_none hge] at hg; cases hg
  ·have h1 : cur[i]? = (cur.toList.take (l.length * 1))[i]? := by
    rw [List.getElem?_take, if_pos (by omega)]; simp
   have h2 : w.cell? ⟨g, i, none⟩ = cur[i]? := by simp [World.cell?, hg]
   rw [h2, h1, ht]
   simp [zv, List.getD, List.getElem?_eq_getElem hi]
  ·simp [World.frozen?, hg]
theorem ZRow.form {w : World} {base : Nat} {v : Value} {l : List Int} (h : ZRow w base v l) : ∃ (a : Option Addr) (cap : Nat), v = .slice a l.length cap := by
 rcases h.cells with ⟨rfl, rfl⟩ | ⟨g, cap, rfl, _⟩
 ·exact ⟨none, 0, rfl⟩
 ·exact ⟨_, cap, rfl⟩
theorem ZRow.kept {w w' : World} {base : Nat} {v : Value} {l : List Int} (h : ZRow w base v l) (hb : ∀ k, v.ownBlock = some k → w'.heap[k]? = w.heap[k]?) : ZRow w' base v l := by
 refine ⟨h.1, h.2.imp id ?_⟩
 rintro ⟨g, cap, cur, hv, h1, h2, h3⟩
 subst hv
 exact ⟨g, cap, cur, rfl, h1, (hb g rfl).trans h2, h3⟩
theorem ZRow.keep {W w : World} {b : Nat} {v : Value} {l : List Int} (h : ZRow W b v l) (hb : Below W.heap.size W w) : ZRow w b v l := by
 refine h.kept (fun k hk => hb.block k ?_)
 rcases h.cells with ⟨rfl, _⟩ | ⟨g, cap, rfl, _, hg, _⟩
 ·cases hk
 ·cases hk; exact hg
theorem ZRow.low {w : World} {b c : Nat} {v : Value} {l : List Int} (h : ZRow w b v l) (hc : c ≤ b) : ZRow w c v l := by
 refine ⟨h.1, h.2.imp id ?_⟩
 rintro ⟨g, cap, cur, hv, h1, h2⟩
 exact ⟨g, cap, cur, hv, Nat.le_trans hc h1, h2⟩
end Go.Proofs.YtjppbomngnomhaaGreatDoor
namespace Go.Proofs.YtjppbomngnomhaaGreatDoor
open Go.RowKit Go.WideMaps Go.Maps Go.Sort Go.Shelf Pl
theorem keyedV : Keyed Tryz.prog 3 := int_keyed Tryz.underlying3
theorem keyV (k : Int) (hk : -9223372036854775808 ≤ k ∧ k ≤ 9223372036854775807) : keyOf Tryz.prog 3 (.int .i64 k) = some (.int .i64 k) := by
 have h1 : IntKind.i64.min = -9223372036854775808 := by decide
 have h2 : IntKind.i64.max = 9223372036854775807 := by decide
 exact keyOf_int_mk Tryz.underlying3 (by simp only [Lit.wf, Bool.and_eq_true, decide_eq_true_eq, h1, h2]; exact hk)
theorem isKeyV (k : Int) : WideAt.IsKeyLit (.int .i64 k) := by first | trivial | exact ⟨_, _, rfl⟩ | simp [WideAt.IsKeyLit]
def hrs (R : List (Int × Bs)) : List Int := R.map (·.1)
structure RtD (w : World) (base : Nat) (D : DataW Value) (R : List (Int × Bs)) : Prop where
 has : ∀ k : Int, Maps.has D (.int .i64 k) = decide (k ∈ hrs R)
 val : ∀ e ∈ R, ∃ v, D.atKey (.int .i64 e.1) (.held nilV) = .held v ∧ BTx w base v e.2
 nodup : (hrs R).Nodup
 size : Maps.size D = R.length
def RtM (w : World) (base m : Nat) (R : List (Int × Bs)) : Prop := ∃ D, w.ownsMap (H := Value) Tryz.prog 3 hR m R.length D ∧ RtD w base D R
theorem RtM.nil {w : World} {base m : Nat} (h : w.ownsMap (H := Value) Tryz.prog 3 hR m 0 (.map [])) : RtM w base m [] :=
 ⟨_, h, fun k => (by rw [has_eq]; simp [hrs]), fun e he => (by cases he), (by simp [hrs]), rfl⟩
theorem RtM.lt {w : World} {base m : Nat} {R : List (Int × Bs)} (h : RtM w base m R) : m < w.heap.size := by
 obtain ⟨D, ho, _⟩ := h
 exact ho.lt
theorem RtM.map {w : World} {base m : Nat} {R : List (Int × Bs)} (h : RtM w base m R) : IsMap w m := by
 obtain ⟨D, ⟨es, c, h1, _⟩, _⟩ := h
 exact ⟨es, c, h1⟩
theorem RtM.nodup {w : World} {base m : Nat} {R : List (Int × Bs)} (h : RtM w base m R) : (hrs R).Nodup := by
 obtain ⟨D, _, hD⟩ := h
 exact hD.nodup
theorem RtM.kept {W w : World} {base m : Nat} {R : List (Int × Bs)} (h : RtM W base m R) (hs : W.heap.size ≤ w.heap.size) (hb : w.heap[m]? = W.heap[m]?) (hk : ∀ (g : Nat) c fz, W.heap[g]? = some (Obj.cells c 5 fz) → w.heap[g]? = W.heap[g]?) : RtM w base m R := by
 obtain ⟨D, ho, hD⟩ := h
 exact ⟨D, ownsMap_at ho hb, hD.has, fun e he => (by obtain ⟨v, h1, h2⟩ := hD.val e he; exact ⟨v, h1, h2.kept hs hk⟩), hD.nodup, hD.size⟩
theorem RtM.keep {W w : World} {base m : Nat} {R : List (Int × Bs)} (h : RtM W base m R) (hb : Below W.heap.size W w) : RtM w base m R :=
 h.kept hb.size (hb.block m h.lt) (fun g c fz hg => hb.block g (heap_lt hg))
theorem RtM.mm {W w : World} {base m : Nat} {R : List (Int × Bs)} (h : RtM W base m R) (hm : MM W w) (hb : w.heap[m]? = W.heap[m]?) : RtM w base m R :=
 h.kept hm.size hb (fun g c fz hg => by rw [hg]; exact hm.block g _ hg (fun es c e => by cases e))
theorem RtM.look {w : World} {base m : Nat} {R : List (Int × Bs)} (h : RtM w base m R) (k : Int) (hk : -9223372036854775808 ≤ k ∧ k ≤ 9223372036854775807) :
  ∃ v, (Instr.lookup 55 (.map (some m)) (.int .i64 k) true).run Tryz.prog w = .ok (.tuple #[v, .bool (decide (k ∈ hrs R))]) w ∧ (∀ t, (k, t) ∈ R → BTx w base v t) ∧ (k ∉ hrs R → v = nilV) := by
 obtain ⟨D, ho, hD⟩ := h
 obtain ⟨v, ps, hrun, hv⟩ := ho.look_ok keyedV Tryz.underlying55 (zeroB w) (zd := .held nilV) (zp := []) rfl (keyV k hk)
 rw [hD.has] at hrun
 refine ⟨v, hrun, fun t ht => ?_, fun hn => ?_⟩
 ·obtain ⟨u, h1, h2⟩ := hD.val (k, t) ht
  rw [h1] at hv
  rw [hR_inv hv]
  exact h2
 ·rw [atKey_of_not_has (by rw [hD.has]; simpa using hn)] at hv
  exact hR_inv hv
theorem RtD.new {w : World} {base : Nat} {R : List (Int × Bs)} {D : DataW Value} (h : RtD w base D R) (hD : Tidy D) (k : Int) (t : Bs) (v : Value) (hn : k ∉ hrs R) (hv : BTx w base v t) : RtD w base (D.put (.int .i64 k) (.held v)) (R ++ [(k, t)]) := by
 refine ⟨fun k' => ?_, fun e he => ?_, ?_, ?_⟩
 ·by_cases e : k' = k
  ·subst e
   rw [has_put_same hD.isMap (isKeyV k')]
   simp [hrs]
  ·rw [has_put_other (by intro h; injection h with _ h; exact e h), h.has, decide_eq_decide]
   unfold hrs
   rw [List.map_append, List.mem_append]
   simp [e]
 ·rcases List.mem_append.1 he with he | he
  ·obtain ⟨u, h1, h2⟩ := h.val e he
   have hne : e.1 ≠ k := fun h => hn (by rw [← h]; exact List.mem_map.2 ⟨e, he, rfl⟩)
   exact ⟨u, by rw [atKey_put_other (by intro h; injection h with _ h; exact hne h)]; exact h1, h2⟩
  ·rw [List.mem_singleton] at he
   subst he
   exact ⟨v, atKey_put_same hD.isMap (isKeyV k) _ _, hv⟩
 ·unfold hrs
  rw [List.map_append, List.nodup_append]
  refine ⟨h.nodup, by simp, fun a ha b hb e => ?_⟩
  simp only [List.map_cons, List.map_nil, List.mem_singleton] at hb
  subst hb e
  exact hn ha
 ·rw [size_put hD, h.has, if_neg (by simpa using hn), h.size, List.length_append]
  rfl
theorem RtM.update {w : World} {base m : Nat} {R : List (Int × Bs)} (h : RtM w base m R) (hl : R.length < 1000000) (k : Int) (hk : -9223372036854775808 ≤ k ∧ k ≤ 9223372036854775807) (hn : k ∉ hrs R) (t : Bs) (v : Value) (hv : BTx w base v t) :
  ∃ w', (Instr.mapUpdate 55 (.map (some m)) (.int .i64 k) v).run Tryz.prog w = .ok () w' ∧ RtM w' base m (R ++ [(k, t)]) ∧ w.grownBy w' (some m) := by
 have hmap := h.map
 obtain ⟨D, ho, hD⟩ := h
 have htd := ho.tidy keyedV
 obtain ⟨w', hrun, ho2, hg⟩ := ho.update keyedV Tryz.underlying55 (by unfold maxLen; omega) (keyV k hk) (show hR v = some (.held v, []) from rfl)
 refine ⟨w', hrun, ⟨D.put (.int .i64 k) (.held v), by rw [List.length_append]; exact ho2, ?_⟩, hg⟩
 have hD2 := hD.new htd k t v hn hv
 have hm := MM.of_grown hmap hg
 exact ⟨hD2.has, fun e he => (by obtain ⟨u, h1, h2⟩ := hD2.val e he; exact ⟨u, h1, h2.kept hm.size (fun g c fz hg => by rw [hg]; exact hm.block g _ hg (fun es c e => by cases e))⟩), hD2.nodup, hD2.size⟩
def delR (R : List (Int × Bs)) (x : Int) : List (Int × Bs) := R.filter fun e => e.1 != x
theorem delR_keys {R : List (Int × Bs)} {x k : Int} : k ∈ hrs (delR R x) ↔ k ∈ hrs R ∧ k ≠ x := by
 unfold hrs delR
 rw [List.mem_map, List.mem_map]
 constructor
 ·rintro ⟨e, he, rfl⟩
  rw [List.mem_filter] at he
  exact ⟨⟨e, he.1, rfl⟩, by simpa using he.2⟩
 ·rintro ⟨⟨e, he, rfl⟩, hne⟩
  exact ⟨e, List.mem_filter.2 ⟨he, by simpa using hne⟩, rfl⟩
theorem RtD.del {w : World} {base : Nat} {D : DataW Value} {R : List (Int × Bs)} (h : RtD w base D R) (hD : Tidy D) {x : Int} (hx : x ∈ hrs R) : RtD w base (D.del (.int .i64 x)) (delR R x) := by
 have hlen : (delR R x).length + 1 = R.length := by
  have hn := h.nodup
  clear h
  induction R with
  | nil => cases hx
  | cons y r ih =>
   unfold hrs at hn hx ih
   rw [List.map_cons, List.nodup_cons] at hn
   rw [List.map_cons, List.mem_cons] at hx
   unfold delR at ih ⊢
   rw [List.filter_cons]
   by_cases e : y.1 = x
   ·rw [if_neg (by simpa using e)]
    have : ∀ z ∈ r, (z.1 != x) = true := fun z hz => by
     have : z.1 ≠ x := fun e2 => hn.1 (by rw [e, ← e2]; exact List.mem_map.2 ⟨z, hz, rfl⟩)
     simpa using this
    rw [List.filter_eq_self.2 this]; rfl
   ·rw [if_pos (by simpa using e)]
    have := ih (hx.resolve_left (fun h => e h.symm)) hn.2
    simp only [List.length_cons]
    omega
 refine ⟨fun k => ?_, fun e he => ?_, ?_, ?_⟩
 ·by_cases e : k = x
  ·subst e
   rw [has_del_same]
   have : k ∉ hrs (delR R k) := fun h => (delR_keys.1 h).2 rfl
   simp [this]
  ·rw [has_del_other (by intro h; injection h with _ h; exact e h), h.has, decide_eq_decide, delR_keys]
   simp [e]
 ·unfold delR at he
  rw [List.mem_filter] at he
  obtain ⟨v, h1, h2⟩ := h.val e he.1
  have hne : e.1 ≠ x := by simpa using he.2
  exact ⟨v, by rw [atKey_del_other (by intro h; injection h with _ h; exact hne h)]; exact h1, h2⟩
 ·exact List.Nodup.sublist (List.Sublist.map _ List.filter_sublist) h.nodup
 ·have h1 := size_del hD (k := .int .i64 x)
  rw [h.has, if_pos (by simpa using hx), h.size] at h1
  omega
end Go.Proofs.YtjppbomngnomhaaGreatDoor
namespace Go.Proofs.YtjppbomngnomhaaGreatDoor
open Go.RowKit Go.WideMaps Go.Maps Go.Sort Go.Shelf Pl
theorem sortsR (m : Nat) : AnyZI.SortsIn Tryz.prog sortedT_ren Fence.wide m :=
 ⟨fun blk off cap ss W hH hblk hsz => callsIn_wide.2 (AnyM.slices_Sort_int sortT blk off cap ss W hH hblk hsz),
  fun p cap W => callsIn_wide.2 (AnyM.slices_Sort_int_none sortT p cap W)⟩
theorem keysR_any (mb : Option Nat) (W : World) : Calls Tryz.prog 25 #[.map mb] W fun e w' => e = .returned (.func (.func 40) #[] #[.pointer (some ⟨W.heap.size, 0, none⟩)]) ∧ w' = W.alloc (.cells #[.map mb] 55) :=
 (callsIn_wide (n := 5)).1 (AnyZI.keys_in keysT Fence.wide 5 trivial rfl mb W)
theorem sortedR_any {H : Type} (b nn : Nat) (D0 : DataW H) (R : Value → Option (DataW H × List MemPlace)) (w : World) (hown : w.ownsMap Tryz.prog 3 R b nn D0) (hmax : Maps.size D0 ≤ 1000000) :
  Calls Tryz.prog 24 #[.func (.func 40) #[] #[.pointer (some ⟨w.heap.size, 0, none⟩)]] (w.alloc (.cells #[.map (some b)] 55)) fun e w' => ∃ v, e = .returned v ∧ ZRow w' w.heap.size v (sortZ (intKeys D0)) ∧ Below w.heap.size (w.alloc (.cells #[.map (some b)] 55)) w' := by
 have hbl := hown.lt
 have hseq : SeqGives Fence.wide 2 Tryz.prog 40 #[.pointer (some ⟨w.heap.size, 0, none⟩)] encZ (fun ss => ss.Perm (intKeys D0)) (Maps.size D0) (w.alloc (.cells #[.map (some b)] 55)) :=
  AnyZI.keys_gives (ρ := keysT_ren) { keysT with } Fence.wide _ trivial rfl (by omega) w.heap.size b nn D0 _ (by simp) (by simp) (by
   obtain ⟨es, clock, hb, Ft, hs, hD⟩ := hown
   exact ⟨es, clock, (Below.heap_alloc _ _ b hbl).trans hb, Ft, hs, hD⟩)
 have h := (callsIn_wide (n := 5)).1 (AnyZI.sorted_in sortedT Fence.wide 5 trivial trivial trivial trivial rfl (by omega) (sortsR _) (enters_of Tryz.func39 (by kernel_rfl) rfl) 40 #[.pointer (some ⟨w.heap.size, 0, none⟩)] trivial (enters_of Tryz.func40 (by kernel_rfl) rfl) _ _ (by unfold maxLen; omega) (by omega) _ hseq)
 refine h.mono ?_
 rintro e w' ⟨v, ss, rfl, hp, hrow, _, hb⟩
 refine ⟨v, rfl, ?_, hb.mono (by simp)⟩
 have hms : ss.mergeSort (fun x y => decide (x ≤ y)) = sortZ (intKeys D0) := mergeSort_of_perm_i hp
 rw [hms] at hrow
 have hl : ss.length = (sortZ (intKeys D0)).length := by rw [sortZ_len, hp.length_eq]
 rw [hl] at hrow
 exact ZRow.low (show ZRow w' _ v _ from hrow) (by simp)
end Go.Proofs.YtjppbomngnomhaaGreatDoor
namespace Go.Proofs.YtjppbomngnomhaaGreatDoor
open Go.RowKit Go.WideMaps Go.Maps Go.Sort Go.Shelf Pl
structure Vs where
 T : List Ent
 R : List (Int × Bs)
 new : Tri
 last : Int
 below : Int
 L : List It
structure VA where
 v : Nat
 sp : Nat
 sb : Nat
 rb : Nat
structure VAt (w : World) (base : Nat) (a : VA) (x : Vs) : Prop where
 hv : base ≤ a.v
 hr : base ≤ a.rb
 blk : ∃ pt, Blk w a.v #[.pointer (some ⟨a.sp, 0, none⟩), .map (some a.rb), .pointer (some ⟨pt, 0, none⟩), .int .i64 x.last, .int .i64 x.below] ∧ TAt w pt x.new
 typ : Typ w a.v 57
 sto : Sto w base a.sp a.sb x.T
 roots : RtM w base a.rb x.R
 ne : a.sb ≠ a.rb
theorem VAt.keep {W w : World} {base : Nat} {a : VA} {x : Vs} (h : VAt W base a x) (hb : Below W.heap.size W w) : VAt w base a x := by
 obtain ⟨pt, h1, h2⟩ := h.blk
 exact ⟨h.hv, h.hr, ⟨pt, h1.keep hb, h2.keep hb⟩, h.typ.keep hb, h.sto.keep hb, h.roots.keep hb, h.ne⟩
def vs0 : Vs := ⟨[], [], .nil, -1, 0, []⟩
theorem vnew_any (w : World) : Calls Tryz.prog 7 #[] w fun e w' => ∃ a : VA, e = .returned (.pointer (some ⟨a.v, 0, none⟩)) ∧ VAt w' w.heap.size a vs0 ∧ Below w.heap.size w w' := by
 have hmm := @run_makeMap Tryz.prog
 have HN := Lib.hid (snew_any w)
 have HT := Lib.hid tnewT_any
 go_enter Tryz.func7, Tryz.ntmps7
 go_wp2_with fail
 refine HN.out.mono ?_
 rintro e w1 ⟨rfl, hS, hb1⟩
 have hown : (w1.alloc (.map #[] 0)).ownsMap (H := Value) Tryz.prog 3 hR w1.heap.size 0 (.map []) := World.ownsMap_made _ _ _ _
 have hS2 := hS.keep (Below.allocS (Below.refl _ _) (.map #[] 0))
 have HRT : Hid (RtM (w1.alloc (.map #[] 0)) w.heap.size w1.heap.size []) := Lib.hid (RtM.nil hown)
 have hb2 : Below w.heap.size w (w1.alloc (.map #[] 0)) := Below.allocS hb1 _
 have HSL := Lib.hid hS.blt
 have HS2 := Lib.hid hS2
 have HB2 := Lib.hid hb2
 have HS1 := Lib.hid hb1.size
 clear HN hS hown hS2 hb2 hb1
 go_wp2_with fail
 refine (HT.out _).mono ?_
 rintro e w2 ⟨pt, rfl, hb3, hT, _⟩
 have HF : ∀ cs, Hid (Below w2.heap.size w2 (w2.alloc (.cells cs 57))) := fun cs => Lib.hid (Below.allocS (Below.refl _ _) _)
 have HS3 := Lib.hid (HS2.out.keep hb3)
 have HR3 := Lib.hid (HRT.out.keep hb3)
 have HB3 := Lib.hid (HB2.out.trans (hb3.mono HB2.out.size))
 have HT3 := Lib.hid hT
 clear hb3 hT HS2 HRT HB2
 go_wp2_with fail
 go_ret
 refine ⟨⟨w2.heap.size, _, w.heap.size, w1.heap.size⟩, rfl, ⟨HB3.out.size, HS1.out, ⟨pt, Blk.new _ _ _, HT3.out.keep (HF _).out⟩, Typ.new _ _ _, HS3.out.keep (HF _).out, HR3.out.keep (HF _).out, by have := HSL.out; show w.heap.size ≠ w1.heap.size; omega⟩, ?_⟩
 exact Below.allocS HB3.out _
def findR (R : List (Int × Bs)) (h : Int) : Option Bs := (R.find? (fun e => e.1 == h)).map (·.2)
def rootV (x : Vs) (h : Int) : Bs × Int := match findR x.R h with
 | some r => (r, 0)
 | none => if h < x.below then ([], 120) else ([], 5)
theorem findR_in {R : List (Int × Bs)} {h : Int} (hi : h ∈ hrs R) : ∃ r, findR R h = some r ∧ (h, r) ∈ R := by
 unfold hrs at hi
 obtain ⟨e, he, rfl⟩ := List.mem_map.1 hi
 cases hf : R.find? (fun y => y.1 == e.1) with
 | none =>
  rw [List.find?_eq_none] at hf
  exact absurd (by simp) (hf e he)
 | some y =>
  have h1 := List.mem_of_find?_eq_some hf
  have h2 := List.find?_some hf
  simp only [beq_iff_eq] at h2
  exact ⟨y.2, by unfold findR; rw [hf]; rfl, by rw [← h2]; exact h1⟩
theorem findR_out {R : List (Int × Bs)} {h : Int} (hi : h ∉ hrs R) : findR R h = none := by
 unfold findR
 rw [List.find?_eq_none.2 (fun e he => by
  intro e2
  simp only [beq_iff_eq] at e2
  exact hi (List.mem_map.2 ⟨e, he, e2⟩))]
 rfl
theorem vroot_any (base : Nat) (a : VA) (x : Vs) (h : Int) (hh : -9223372036854775808 ≤ h ∧ h ≤ 9223372036854775807) (w : World) (hV : VAt w base a x) :
  Calls Tryz.prog 11 #[.pointer (some ⟨a.v, 0, none⟩), .int .i64 h] w fun e w' => e = .returned (.tuple #[.string ⟨List.toArray ((rootV x h).1)⟩, .int .i64 ((rootV x h).2)]) ∧ Below w.heap.size w w' := by
 obtain ⟨pt, hB, _⟩ := hV.blk
 obtain ⟨v, hrun, hv1, hv2⟩ := hV.roots.look h hh
 have c1 : w.cell? ⟨a.v, 1, none⟩ = some (.map (some a.rb)) := hB.cell 1
 have c4 : w.cell? ⟨a.v, 4, none⟩ = some (.int .i64 x.below) := hB.cell 4
 clear hB hV
 by_cases hin : h ∈ hrs x.R
 ·obtain ⟨r, hr1, hr2⟩ := findR_in hin
  have HE : Hid (rootV x h = (r, 0)) := Lib.hid (by unfold rootV; rw [hr1])
  have hconv := (hv1 r hr2).conv
  rw [show decide (h ∈ hrs x.R) = true from by simpa using hin] at hrun
  rw [HE.out]
  clear hv1 hv2 hr1 hr2 hin HE
  go_enter Tryz.func11, Tryz.ntmps11
  go_wp2_with fail
  all_goals (go_ret2; exact ⟨rfl, Below.refl _ _⟩)
 ·obtain rfl := hv2 hin
  have HN : Hid (findR x.R h = none) := Lib.hid (findR_out hin)
  rw [show decide (h ∈ hrs x.R) = false from by simpa using hin] at hrun
  by_cases hb : h < x.below
  ·have HE : Hid (rootV x h = ([], 120)) := Lib.hid (by unfold rootV; rw [HN.out]; simp [hb])
   have d1 : decide (h < x.below) = true := by simpa using hb
   rw [HE.out]
   clear hv1 hin HE HN hb
   go_enter Tryz.func11, Tryz.ntmps11
   go_wp2_with fail
   all_goals (go_ret2; exact ⟨rfl, Below.refl _ _⟩)
  ·have HE : Hid (rootV x h = ([], 5)) := Lib.hid (by unfold rootV; rw [HN.out]; simp [hb])
   have d1 : decide (h < x.below) = false := by simpa using hb
   rw [HE.out]
   clear hv1 hin HE HN hb
   go_enter Tryz.func11, Tryz.ntmps11
   go_wp2_with fail
   all_goals (go_ret2; exact ⟨rfl, Below.refl _ _⟩)
def atV (x : Vs) (h : Int) : Tri × Int := if (rootV x h).2 ≠ 0 then (.nil, (rootV x h).2) else loadR x.T (rootV x h).1
theorem vat_any (base : Nat) (a : VA) (x : Vs) (hsh : ShortE x.T) (hrl : ∀ e ∈ x.R, e.2.length ≤ 1000) (h : Int) (hh : -9223372036854775808 ≤ h ∧ h ≤ 9223372036854775807) (w : World) (hk : KT w) (hV : VAt w base a x) :
  Calls Tryz.prog 15 #[.pointer (some ⟨a.v, 0, none⟩), .int .i64 h] w (LoadQ w (atV x h)) := by
 have HR := Lib.hid (vroot_any base a x h hh w hV)
 have hrt : (rootV x h).1.length ≤ 1000 := by
  unfold rootV
  by_cases hin : h ∈ hrs x.R
  ·obtain ⟨r, hr1, hr2⟩ := findR_in hin
   rw [hr1]; exact hrl _ hr2
  ·rw [findR_out hin]
   by_cases hb : h < x.below <;> simp [hb]
 have HV := Lib.hid hV
 have HK := Lib.hid hk
 by_cases hc : (rootV x h).2 = 0
 ·have HE : Hid (atV x h = loadR x.T (rootV x h).1) := Lib.hid (if_neg (by simpa using hc))
  rw [HE.out]
  rw [hc] at HR
  clear hV hk HE hc
  generalize (rootV x h).1 = rt at *
  generalize hq : LoadQ w (loadR x.T rt) = Q
  have HQ : Hid (∀ e w', LoadQ w (loadR x.T rt) e w' → Q e w') := Lib.hid (fun e w' h => by rw [← hq]; exact h)
  clear hq
  go_enter Tryz.func15, Tryz.ntmps15
  go_wp2_with fail
  refine HR.out.mono ?_
  rintro e w1 ⟨rfl, hb1⟩
  have hV1 := HV.out.keep hb1
  obtain ⟨pt, hB, _⟩ := hV1.blk
  have c0 : w1.cell? ⟨a.v, 0, none⟩ = some (.pointer (some ⟨a.sp, 0, none⟩)) := hB.cell 0
  have HL := Lib.hid (tload_any x.T base a.sb a.sp hsh rt (by unfold maxLen; omega) w1 (HK.out.keep hb1) hV1.sto)
  clear hB hV1
  go_wp2_with fail
  refine HL.out.mono ?_
  rintro e w2 ⟨hb2, he⟩
  have hb02 := hb1.trans (hb2.mono hb1.size)
  rcases he with ⟨h0, rfl⟩ | ⟨h0, pt, rfl, hT⟩
  ·have HZ := Lib.hid h0
   clear h0 HL
   go_wp2_with fail
   exact HQ.out _ _ ⟨hb02, .inl ⟨HZ.out, rfl⟩⟩
  ·have HZ := Lib.hid h0
   clear h0 HL
   go_wp2_with fail
   exact HQ.out _ _ ⟨hb02, .inr ⟨HZ.out, pt, rfl, hT⟩⟩
 ·have HE : Hid (atV x h = (.nil, (rootV x h).2)) := Lib.hid (if_pos hc)
  rw [HE.out]
  clear hV hk HE hrt
  generalize (rootV x h).1 = rt at *
  generalize (rootV x h).2 = c at *
  have z1 : (c == 0) = false := by simpa using hc
  have z2 : (c != 0) = true := by simpa using hc
  have HC := Lib.hid hc
  clear hc
  go_enter Tryz.func15, Tryz.ntmps15
  go_wp2_with fail
  refine HR.out.mono ?_
  rintro e w1 ⟨rfl, hb1⟩
  clear HR
  go_wp2_with fail
  go_ret2
  exact ⟨hb1, .inl ⟨HC.out, rfl⟩⟩
theorem vheights_any (base : Nat) (a : VA) (x : Vs) (hl : x.R.length ≤ 100000) (w : World) (hV : VAt w base a x) :
  Calls Tryz.prog 9 #[.pointer (some ⟨a.v, 0, none⟩)] w fun e w' => ∃ v, e = .returned v ∧ ZRow w' w.heap.size v (sortZ (hrs x.R)) ∧ Below w.heap.size w w' := by
 obtain ⟨pt, hB, _⟩ := hV.blk
 obtain ⟨D, ho, hD⟩ := hV.roots
 have hkb := keysR_any (some a.rb)
 have hso := sortedR_any a.rb _ D hR w ho (by rw [hD.size]; omega)
 rw [show sortZ (intKeys D) = sortZ (hrs x.R) from (mergeSort_of_perm_i (keys_permI ho hD.nodup hD.has)).symm] at hso
 have c1 : w.cell? ⟨a.v, 1, none⟩ = some (.map (some a.rb)) := hB.cell 1
 generalize sortZ (hrs x.R) = L at *
 clear hB ho hD hV
 go_enter Tryz.func9, Tryz.ntmps9
 go_wp2_with fail
 refine (hkb _).mono ?_
 rintro e w1 ⟨rfl, rfl⟩
 go_wp2_with fail
 refine hso.mono ?_
 rintro e w2 ⟨v, rfl, hr, hb⟩
 go_wp2_with fail
 go_ret
 exact ⟨v, rfl, hr, (Below.allocS (Below.refl _ _) _).trans hb⟩
theorem vtexts_any (base : Nat) (a : VA) (x : Vs) (hl : x.T.length ≤ 100000) (w : World) (hV : VAt w base a x) :
  Calls Tryz.prog 20 #[.pointer (some ⟨a.v, 0, none⟩)] w fun e w' => e = .returned (.int .i64 x.T.length) ∧ Below w.heap.size w w' := by
 obtain ⟨pt, hB, _⟩ := hV.blk
 have HS := Lib.hid (ssums_any base a.sp a.sb x.T hl w hV.sto)
 have c0 : w.cell? ⟨a.v, 0, none⟩ = some (.pointer (some ⟨a.sp, 0, none⟩)) := hB.cell 0
 have HL : Hid ((sortB (keysE x.T)).length = x.T.length) := Lib.hid (by rw [(sortB_perm (keysE x.T)).length_eq]; unfold keysE; rw [List.length_map])
 generalize sortB (keysE x.T) = L at *
 rw [← HL.out]
 clear hB hV hl
 go_enter Tryz.func20, Tryz.ntmps20
 go_wp2_with fail
 refine HS.out.mono ?_
 rintro e w1 ⟨v, rfl, hr, hb⟩
 obtain ⟨va, vc, rfl⟩ := hr.form
 clear HS hr
 go_wp2_with fail
 go_ret
 exact ⟨rfl, hb⟩
end Go.Proofs.YtjppbomngnomhaaGreatDoor
namespace Go.Proofs.YtjppbomngnomhaaGreatDoor
open Go.RowKit Pl
def chgC (t : Tri) (L : List It) (x : It) : Int := if x.2 = [] then (if (getK t x.1).2 = 5 then 0 else (getK t x.1).2) else putE L x.1 x.2
def chgT (t : Tri) (x : It) : Tri := if x.2 = [] then (if (getK t x.1).2 = 0 then delT t (ofP x.1) else t) else Pl.putT t (ofP x.1) x.2
def chgL (t : Tri) (L : List It) (x : It) : List It := if x.2 = [] then (if (getK t x.1).2 = 0 then outI x.1 L else L) else insI x.1 x.2 L
theorem GTr.chg {t : Tri} {L : List It} (h : GTr t L) (x : It) (hc : chgC t L x = 0) : GTr (chgT t x) (chgL t L x) := by
 unfold chgC at hc
 unfold chgT chgL
 by_cases hx : x.2 = []
 ·rw [if_pos hx] at hc
  rw [if_pos hx, if_pos hx]
  by_cases h0 : (getK t x.1).2 = 0
  ·rw [if_pos h0, if_pos h0]
   exact h.del (getK_zero h0).2
  ·rw [if_neg h0, if_neg h0]; exact h
 ·rw [if_neg hx] at hc
  rw [if_neg hx, if_neg hx]
  exact h.put hc
theorem chgL_len {t : Tri} {L : List It} (x : It) : (chgL t L x).length ≤ L.length + 1 := by
 unfold chgL
 split
 ·split
  ·have := outI_len x.1 L; omega
  ·omega
 ·exact insI_len _ _ _
theorem changed_any (pt : Nat) (t : Tri) (L : List It) (hG : GTr t L) (k v : Bs) (hk : k.length ≤ 1000000) (hv : v.length ≤ 1000000) (w : World) (hkt : KT w) (hT : TAt w pt t) :
  Calls Tryz.prog 22 #[.pointer (some ⟨pt, 0, none⟩), .agg #[.string ⟨List.toArray k⟩, .string ⟨List.toArray v⟩]] w (LoadQ w (chgT t (k, v), chgC t L (k, v))) := by
 have hbA : Below w.heap.size w (w.alloc (.cells #[.string ⟨List.toArray k⟩, .string ⟨List.toArray v⟩] 43)) := Below.allocS (Below.refl _ _) _
 by_cases hv0 : v = []
 ·subst hv0
  have HD := Lib.hid (tdelG_any pt t L hG k (by omega) _ (hkt.keep hbA) (hT.keep hbA))
  have HC : Hid (chgC t L (k, []) = if (getK t k).2 = 5 then 0 else (getK t k).2) := Lib.hid (by simp [chgC])
  have HT : Hid (chgT t (k, []) = if (getK t k).2 = 0 then delT t (ofP k) else t) := Lib.hid (by simp [chgT])
  have HTT := Lib.hid hT
  have HBA := Lib.hid hbA
  clear hG hkt hT hbA
  generalize hq : LoadQ w (chgT t (k, []), chgC t L (k, [])) = Q
  rw [HC.out, HT.out] at hq
  have HQ : Hid (∀ e w', LoadQ w (if (getK t k).2 = 0 then delT t (ofP k) else t, if (getK t k).2 = 5 then 0 else (getK t k).2) e w' → Q e w') := Lib.hid (fun e w' h => by rw [← hq]; exact h)
  clear hq HC HT
  generalize delT t (ofP k) = t2 at *
  generalize (getK t k).2 = c at *
  go_enter Tryz.func22, Tryz.ntmps22
  go_wp2_with fail
  refine HD.out.mono ?_
  rintro e w2 ⟨hb2, he⟩
  have HB2 := Lib.hid (HBA.out.trans (hb2.mono HBA.out.size))
  have HTB := Lib.hid ((HTT.out.keep HBA.out).keep hb2)
  clear hb2
  rcases he with ⟨hc, rfl⟩ | ⟨hc, pt2, rfl, hT2⟩
  ·simp only at hc
   by_cases h5 : c = 5
   ·subst h5
    clear HD hc
    go_wp2_with fail
    exact HQ.out _ _ ⟨HB2.out, .inr ⟨rfl, pt, rfl, HTB.out⟩⟩
   ·have z1 : (c == 5) = false := by simpa using h5
    have HX : Hid (c ≠ 0 ∧ c ≠ 5) := Lib.hid ⟨hc, h5⟩
    clear HD hc h5
    go_wp2_with fail
    exact HQ.out _ _ ⟨HB2.out, .inl ⟨by simp only; rw [if_neg HX.out.2]; exact HX.out.1, by rw [if_neg HX.out.2]; rfl⟩⟩
  ·simp only at hc
   subst hc
   have HT2 := Lib.hid hT2
   clear HD hT2
   go_wp2_with fail
   exact HQ.out _ _ ⟨HB2.out, .inr ⟨rfl, pt2, rfl, HT2.out⟩⟩
 ·have HP := Lib.hid (tputG_any pt t L hG k v (by omega) (by omega) _ (hkt.keep hbA) (hT.keep hbA))
  have HC : Hid (chgC t L (k, v) = putE L k v) := Lib.hid (by simp [chgC, hv0])
  have HT : Hid (chgT t (k, v) = Pl.putT t (ofP k) v) := Lib.hid (by simp [chgT, hv0])
  have v1 : v.isEmpty = false := by simpa using hv0
  have v2 : (v == []) = false := by simpa using hv0
  have v3 : (v != []) = true := by simpa using hv0
  have HBA := Lib.hid hbA
  clear hG hkt hT hbA hv0
  generalize hq : LoadQ w (chgT t (k, v), chgC t L (k, v)) = Q
  rw [HC.out, HT.out] at hq
  have HQ : Hid (∀ e w', LoadQ w (Pl.putT t (ofP k) v, putE L k v) e w' → Q e w') := Lib.hid (fun e w' h => by rw [← hq]; exact h)
  clear hq HC HT
  generalize Pl.putT t (ofP k) v = t2 at *
  generalize putE L k v = c at *
  go_enter Tryz.func22, Tryz.ntmps22
  go_wp2_with fail
  refine HP.out.mono ?_
  rintro e w2 ⟨hb2, he⟩
  have HB2 := Lib.hid (HBA.out.trans (hb2.mono HBA.out.size))
  clear hb2
  rcases he with ⟨hc, rfl⟩ | ⟨hc, pt2, rfl, hT2⟩
  ·have HX := Lib.hid hc
   clear HP hc
   go_wp2_with fail
   exact HQ.out _ _ ⟨HB2.out, .inl ⟨HX.out, rfl⟩⟩
  ·simp only at hc
   subst hc
   have HT2 := Lib.hid hT2
   clear HP hT2
   go_wp2_with fail
   exact HQ.out _ _ ⟨HB2.out, .inr ⟨rfl, pt2, rfl, HT2.out⟩⟩
end Go.Proofs.YtjppbomngnomhaaGreatDoor
namespace Go.Proofs.YtjppbomngnomhaaGreatDoor
open Go.RowKit Go.WideMaps Go.Maps Go.Sort Go.Shelf Pl
section
variable {w w' : World} {v sp rb pt : Nat} {c d : Int}
theorem vers_noKnot (hB : Blk w v #[.pointer (some ⟨sp, 0, none⟩), .map (some rb), .pointer (some ⟨pt, 0, none⟩), .int .i64 c, .int .i64 d]) {b : Nat} {kind : Int} {path val : Bs} {f : Nat → Bs} {ps : Ps} {t s : Bs} {n : Int} (hK : Blk w b (kn kind path val f ps t s n).toArray) : b ≠ v := by
 rintro rfl
 have h1 := hK.kn.many
 rw [hB.cell] at h1
 simp at h1
theorem KAt.modv (hB : Blk w v #[.pointer (some ⟨sp, 0, none⟩), .map (some rb), .pointer (some ⟨pt, 0, none⟩), .int .i64 c, .int .i64 d]) (hm : Mod [v] w w') {t : Tri} {p : Option Nat} (hT : KAt w t p) : KAt w' t p := by
 induction hT with
 | nil => exact .nil
 | knot t b ps hn hk hK ih => exact .knot t b ps hn ih (hK.mod hm (by simpa using vers_noKnot hB hK))
theorem TAt.modv (hB : Blk w v #[.pointer (some ⟨sp, 0, none⟩), .map (some rb), .pointer (some ⟨pt, 0, none⟩), .int .i64 c, .int .i64 d]) (hm : Mod [v] w w') {t : Tri} {p : Nat} (hT : TAt w p t) : TAt w' p t := by
 obtain ⟨kp, h1, h2⟩ := hT
 refine ⟨kp, h1.mod hm ?_, h2.modv hB hm⟩
 rw [List.mem_singleton]
 rintro rfl
 have e := hB.cell 1
 rw [h1.cell 1] at e
 simp at e
theorem KT.modv (hB : Blk w v #[.pointer (some ⟨sp, 0, none⟩), .map (some rb), .pointer (some ⟨pt, 0, none⟩), .int .i64 c, .int .i64 d]) (hm : Mod [v] w w') (hk : KT w) : KT w' := by
 have hne : 0 ≠ v := by
  intro e
  subst e
  have h1 := hk.cell 0 (by omega)
  rw [hB.cell] at h1
  simp at h1
 exact ⟨fun i hi => (World.cell?_of_block (a := ⟨0, i, none⟩) (hm.block _ hk.lt (by simpa using hne))).trans (hk.cell i hi), Nat.lt_of_lt_of_le hk.lt hm.size⟩
theorem typ_ne {w : World} {v : Nat} {t u : TypeId} {c : Array Value} {fz : Nat × Nat} (h : Typ w v t) (hg : w.heap[v]? = some (Obj.cells c u fz)) : t = u := by
 obtain ⟨cs, h⟩ := h
 rw [h] at hg
 injection hg with hg
 injection hg
theorem Sto.modv (ht : Typ w v 57) (hm : Mod [v] w w') {base p b : Nat} {T : List Ent} (hS : Sto w base p b T) : Sto w' base p b T := by
 refine hS.kept hm.size (fun k hk => hm.block k (stok_lt hk) ?_)
 rw [List.mem_singleton]
 rintro rfl
 rcases hk with ⟨_, _, h⟩ | ⟨_, _, h⟩ | ⟨_, _, h⟩
 ·obtain ⟨cs, ht⟩ := ht
  rw [ht] at h; cases h
 ·exact absurd (typ_ne ht h) (by decide)
 ·exact absurd (typ_ne ht h) (by decide)
theorem RtM.modv (ht : Typ w v 57) (hm : Mod [v] w w') {base m : Nat} {R : List (Int × Bs)} (h : RtM w base m R) : RtM w' base m R := by
 refine h.kept hm.size (hm.block m h.lt ?_) (fun g c fz hg => hm.block g (heap_lt hg) ?_)
 ·rw [List.mem_singleton]
  rintro rfl
  obtain ⟨es, c, h1⟩ := h.map
  obtain ⟨cs, ht⟩ := ht
  rw [ht] at h1; cases h1
 ·rw [List.mem_singleton]
  rintro rfl
  exact absurd (typ_ne ht hg) (by decide)
end
def chgsR : Tri → List It → List It → (Tri × List It) × Int
 | t, L, [] => ((t, L), 0)
 | t, L, x :: r => if chgC t L x = 0 then chgsR (chgT t x) (chgL t L x) r else ((t, L), chgC t L x)
def commitV (x : Vs) (h : Int) (c : List It) : Vs × (Bs × Int) :=
 if h < 0 ∨ 1048576 < h then (x, ([], 1))
 else if h ≤ x.last ∨ h < x.below then (x, ([], 120))
 else if (chgsR x.new x.L c).2 ≠ 0 then (x, ([], (chgsR x.new x.L c).2))
 else (⟨saveT x.T (nodesT (chgsR x.new x.L c).1.1), x.R ++ [(h, sumT (chgsR x.new x.L c).1.1)], (chgsR x.new x.L c).1.1, h, x.below, (chgsR x.new x.L c).1.2⟩, (sumT (chgsR x.new x.L c).1.1, 0))
structure VsOk (x : Vs) : Prop where
 gt : GTr x.new x.L
 short : ShortE x.T
 keys : ∀ k ∈ keysE x.T, k.length ≤ 1000
 rts : ∀ e ∈ x.R, e.2.length ≤ 1000 ∧ 0 ≤ e.1 ∧ e.1 ≤ x.last
 last : -1 ≤ x.last ∧ x.last ≤ 1048576
 below : 0 ≤ x.below ∧ x.below ≤ 9223372036854775807
theorem VsOk.start : VsOk vs0 := ⟨GTr.nil, fun _ h => (by cases h), fun _ h => (by cases h), fun _ h => (by cases h), by decide, by decide⟩
theorem dropIt (l : List It) (i : Nat) (hi : i < l.length) : l.drop i = l.getD i ([], []) :: l.drop (i + 1) := by
 rw [List.drop_eq_getElem_cons hi, List.getD_eq_getElem?_getD, List.getElem?_eq_getElem hi]
 rfl
theorem sum_short {t : Tri} {L : List It} (h : GTr t L) : (sumT t).length ≤ 1000 := by
 by_cases e : t = .nil
 ·rw [e]; simp [sumT]
 ·rw [sum_len e (chk_can t 16 (by omega) h.rep.ok h.can e)]; omega
theorem chgs_good : ∀ (c : List It) (t : Tri) (L : List It), GTr t L → (chgsR t L c).2 = 0 → GTr (chgsR t L c).1.1 (chgsR t L c).1.2 ∧ (chgsR t L c).1.2.length ≤ L.length + c.length
 | [], t, L, h, _ => ⟨h, by simp [chgsR]⟩
 | x :: r, t, L, h, he => by
  unfold chgsR at he ⊢
  split at he
  ·rename_i hc
   rw [if_pos hc]
   obtain ⟨h1, h2⟩ := chgs_good r _ _ (h.chg x hc) he
   have := chgL_len (t := t) (L := L) x
   exact ⟨h1, by simp only [List.length_cons]; omega⟩
  ·rename_i hc
   exact absurd he hc
end Go.Proofs.YtjppbomngnomhaaGreatDoor
