/- Say, TLong. -/
import Derived.Test.YthgjdaomcpinaaaGreatDoorMp45
set_option linter.unnecessarySimpa false
set_option linter.unusedSimpArgs false
set_option linter.unusedVariables false
set_option maxRecDepth 100000
set_option maxHeartbeats 32000000
namespace Go.Proofs.YthgjdaomcpinaaaGreatDoor
open Go.RowKit Go.WideMaps Go.Maps Go.Sort Go.Shelf Pl
namespace Pl
def atT (T : List (Int × Tr)) (sp now k : Int) : Option Tr × Int := match lookK T k with
 | none => (none, 5)
 | some t => if staleT sp now t = true then (none, 330) else (some t, 0)
end Pl
theorem at_same {l : List Tr} {T : List (Int × Tr)} (h : Im l T) (g : GoodT T) {sp now : Int} (hs : 0 ≤ sp) (k : Int) : atR l sp now k = atT T sp now k := by
 unfold atR atT
 cases hk : lookK T k with
 | none =>
  have : thereL k l = false := by
   cases hc : thereL k l
   ·rfl
   ·exact absurd ((h.there k).1 hc) (look_none.1 hk)
  rw [this]
  rfl
 | some t =>
  obtain ⟨h1, h2⟩ := h.get hk
  rw [h1, if_pos rfl, h2]
  simp only
  rw [stale_same hs (g.at0 k t hk)]
theorem nilT_row (w : World) (base : Nat) : TRow w base nilT trZ := ⟨_, _, rfl, SRow.nil _ _, MRow.nil _ _⟩
theorem FV.row {w : World} {b : Nat} {v : Value} {o : Option Tr} (h : FV w b v o) : TRow w b v (o.getD trZ) := by
 cases o with
 | none => rw [show v = nilT from h]; exact nilT_row w b
 | some t => exact h
theorem OV.form {w : World} {av : List Nat} {v : Value} {o : Option Tr} (h : OV w av v o) : TV w v (o.getD trZ) := by
 cases o with
 | none => rw [show v = nilT from h]; exact (nilT_row w 0).tv
 | some t =>
  obtain ⟨sk, ms, e, h1⟩ := h
  exact ⟨sk, ms, e, h1.ss.ss, h1.ms.ms⟩
theorem tat_uni (base q m : Nat) (span : Int) (jp : Value) (T : List (Int × Tr)) (k now : Int) (hk : -9223372036854775808 ≤ k ∧ k ≤ 9223372036854775807) (hn : -9223372036854775808 ≤ now ∧ now ≤ 9223372036854775807) (hs : 0 ≤ span ∧ span ≤ 1099511627776) (hg : GoodT T) (w : World) (hM : TrM w base m T) (B : Blk w q #[.map (some m), .int .i64 span, jp]) :
  Calls Tryz.prog 32 #[.pointer (some ⟨q, 0, none⟩), .int .i64 k, .int .i64 now] w fun e w' => ∃ v, e = .returned (.tuple #[v, .int .i64 ((atT T span now k).2)]) ∧ TRow w' w.heap.size v ((atT T span now k).1.getD trZ) ∧ Below w.heap.size w w' := by
 unfold atT
 cases hl : lookK T k with
 | none =>
  refine (tat_none base q m span jp T k now hk (look_none.1 hl) w hM B).mono ?_
  rintro e w1 ⟨rfl, hb⟩
  exact ⟨_, rfl, nilT_row _ _, hb⟩
 | some t =>
  have hin := look_mem hl
  obtain ⟨hf, _⟩ := hg.el _ hin
  have hsm := fineT_small hf
  refine (tat_any base q m span jp T k now t hk hn hs hin (by simp only at hsm; omega) (by simp only at hsm; omega) w hM B).mono ?_
  rintro e w1 ⟨v, rfl, hv, hb⟩
  cases hst : staleT span now t
  ·rw [hst] at hv
   simp only [hst, if_false, Bool.false_eq_true] at hv ⊢
   exact ⟨v, rfl, hv, hb⟩
  ·rw [hst] at hv
   simp only [hst, if_true] at hv ⊢
   subst hv
   exact ⟨_, rfl, nilT_row _ _, hb⟩
theorem loop_hts {l : List Tr} {T : List (Int × Tr)} (h : Im l T) (g : GoodT T) (i : Nat) (hi : i < l.length) : ∃ t, l[i]? = some t ∧ (sortZ (hts T)).getD i 0 = t.head.height := by
 have hl := h.img g.nd
 subst hl
 unfold imgT imgL at hi ⊢
 rw [List.length_map] at hi
 obtain ⟨t, ht⟩ := hts_mem (sortZ_mem.1 (List.getElem_mem hi))
 refine ⟨t, ?_, ?_⟩
 ·rw [List.getElem?_map, List.getElem?_eq_getElem hi, Option.map_some, lookK_in g.nd ht]
  rfl
 ·rw [List.getD_eq_getElem?_getD, List.getElem?_eq_getElem hi, Option.getD_some]
  exact ((g.el _ ht).2).symm
theorem SRow.modlS {w w' : World} {base : Nat} {L : List Nat} {v : Value} {l : List Bs} (h : SRow w base v l) (hm : Mod L w w') (hl : ∀ x ∈ L, x < base) : SRow w' base v l :=
 h.kept (fun k hk => hm.block k (h.at_lt hk) (fun hi => absurd (hl k hi) (Nat.not_lt.2 (h.own k hk))))
theorem MRow.modlS {w w' : World} {base : Nat} {L : List Nat} {v : Value} {l : List (Bs × Int)} (h : MRow w base v l) (hm : Mod L w w') (hl : ∀ x ∈ L, x < base) : MRow w' base v l :=
 h.kept (fun k hk => hm.block k (h.at_lt hk) (fun hi => absurd (hl k hi) (Nat.not_lt.2 (h.own k hk))))
theorem tells_any (av : List Nat) (base q m : Nat) (jp : Value) (T : List (Int × Tr)) (l : List Tr) (lv : Value) (d : Dk) (br : Bool) (h now : Int) (hh : -9223372036854775808 ≤ h ∧ h ≤ 9223372036854775807) (hn : -9223372036854775808 ≤ now ∧ now ≤ 9223372036854775807) (hg : GoodT T) (hi : Im l T) (hT : T.length ≤ 1000) (w : World) (hM : TrM w base m T) (B : Blk w q #[.map (some m), .int .i64 10, jp]) (hv : TLA w av lv l) :
  Calls Tryz.prog 45 #[.pointer (some ⟨q, 0, none⟩), stv lv 10 d br, .int .i64 h, .int .i64 now] w fun e w' => e = .returned (.bool true) ∧ Below w.heap.size w w' := by
 obtain ⟨la, lc, rfl⟩ := hv.form
 obtain ⟨s, safe, room, fuse, down⟩ := d
 obtain ⟨d, hd⟩ : ∃ d : Dk, d = ⟨s, safe, room, fuse, down⟩ := ⟨_, rfl⟩
 have B5 : Blk (w.alloc (.cells (stcs (.slice la l.length lc) 10 ⟨s, safe, room, fuse, down⟩ br).toArray 76)) w.heap.size (stcs (.slice la l.length lc) 10 ⟨s, safe, room, fuse, down⟩ br).toArray := Blk.new _ _ _
 have hb0 : Below w.heap.size w (w.alloc (.cells (stcs (.slice la l.length lc) 10 ⟨s, safe, room, fuse, down⟩ br).toArray 76)) := Below.allocS (Below.refl _ _) _
 have hlT := hi.len hg
 have hl1000 : l.length ≤ 1000 := by omega
 have q1 := theights_any base q m 10 jp T (by omega) _ (hM.keep hb0) (B.keep hb0)
 have HLL : Hid ((sortZ (hts T)).length = l.length) := Lib.hid (by rw [sortZ_len]; unfold hts; rw [List.length_map, hlT])
 have HLH := Lib.hid (loop_hts hi hg)
 have qa := fun W (hb : Below w.heap.size w W) => tat_uni base q m 10 jp T h now hh hn (by omega) hg W (hM.keep hb) (B.keep hb)
 have qb : ∀ W, Below w.heap.size w W → Calls Tryz.prog 92 #[stv (.slice la l.length lc) 10 ⟨s, safe, room, fuse, down⟩ br, .int .i64 h, .int .i64 now] W fun e w' => ∃ v', e = .returned (.tuple #[v', .int .i64 ((atR l 10 now h).2)]) ∧ TV w' v' ((atR l 10 now h).1.getD trZ) ∧ Below W.heap.size W w' := fun W hb => (rat_any av (.slice la l.length lc) l 10 now h (by omega) hn ⟨s, safe, room, fuse, down⟩ br W (hv.keep hb)).mono fun e w' ⟨v', h1, h2, h3⟩ => ⟨v', h1, h2.form, h3⟩
 rw [at_same hi hg (by omega)] at qb
 have qc : ∀ W, Below w.heap.size w W → Calls Tryz.prog 33 #[.pointer (some ⟨q, 0, none⟩), .int .i64 now] W fun e w' => ∃ v', e = .returned (.tuple #[v', .int .i64 (firstC (firstT T 10 now (sortZ (hts T)).reverse) (sortZ (hts T)).reverse)]) ∧ TRow w' W.heap.size v' ((firstT T 10 now (sortZ (hts T)).reverse).getD trZ) ∧ Below W.heap.size W w' := fun W hb => (tbest_any base q m 10 jp T now (by omega) hg.sm hn (by omega) W (hM.keep hb) (B.keep hb)).mono fun e w' ⟨v', h1, h2, h3⟩ => ⟨v', h1, FV.row h2, h3⟩
 have qd : ∀ W, Below w.heap.size w W → Calls Tryz.prog 93 #[stv (.slice la l.length lc) 10 ⟨s, safe, room, fuse, down⟩ br, .int .i64 now] W fun e w' => ∃ v', e = .returned (.tuple #[v', .int .i64 ((bestR l 10 now).2)]) ∧ TV w' v' ((bestR l 10 now).1.getD trZ) ∧ Below W.heap.size W w' := fun W hb => (rbest_any av (.slice la l.length lc) l 10 now hl1000 (by omega) hn ⟨s, safe, room, fuse, down⟩ br W (hv.keep hb)).mono fun e w' ⟨v', h1, h2, h3⟩ => ⟨v', h1, h2.form, h3⟩
 have eB := best_same (sp := 10) (now := now) hg.nd (by omega) hg.at0
 rw [← hi.img hg.nd] at eB
 rw [eB] at qd
 have qe : ∀ W, Below w.heap.size w W → Calls Tryz.prog 34 #[.pointer (some ⟨q, 0, none⟩), .int .i64 h, .int .i64 now] W fun e w' => ∃ v', e = .returned (.tuple #[v', .int .i64 (firstC (firstT T 10 now ((sortZ (hts T)).drop ((sortZ (hts T)).countP (· < h)))) ((sortZ (hts T)).drop ((sortZ (hts T)).countP (· < h))))]) ∧ TRow w' W.heap.size v' ((firstT T 10 now ((sortZ (hts T)).drop ((sortZ (hts T)).countP (· < h)))).getD trZ) ∧ Below W.heap.size W w' := fun W hb => (tabove_any base q m 10 jp T h now (by omega) hg.sm hn (by omega) W (hM.keep hb) (B.keep hb)).mono fun e w' ⟨v', h1, h2, h3⟩ => ⟨v', h1, FV.row h2, h3⟩
 have qf : ∀ W, Below w.heap.size w W → Calls Tryz.prog 94 #[stv (.slice la l.length lc) 10 ⟨s, safe, room, fuse, down⟩ br, .int .i64 h, .int .i64 now] W fun e w' => ∃ v', e = .returned (.tuple #[v', .int .i64 ((abR 10 now h 5 l).2)]) ∧ TV w' v' ((abR 10 now h 5 l).1.getD trZ) ∧ Below W.heap.size W w' := fun W hb => (rabove_any av (.slice la l.length lc) l 10 h now hl1000 (by omega) hn ⟨s, safe, room, fuse, down⟩ br W (hv.keep hb)).mono fun e w' ⟨v', h1, h2, h3⟩ => ⟨v', h1, h2.form, h3⟩
 have eA := above_same (sp := 10) (now := now) hg.nd hg.key (by omega) hg.at0 h
 rw [← hi.img hg.nd] at eA
 rw [eA] at qf
 clear eA eB
 simp only at qd qf
 generalize atT T 10 now h = A at qa qb
 obtain ⟨oa, ca⟩ := A
 generalize firstC (firstT T 10 now (sortZ (hts T)).reverse) (sortZ (hts T)).reverse = cc at qc qd
 generalize firstT T 10 now (sortZ (hts T)).reverse = oc at qc qd
 generalize firstC (firstT T 10 now ((sortZ (hts T)).drop ((sortZ (hts T)).countP (· < h)))) ((sortZ (hts T)).drop ((sortZ (hts T)).countP (· < h))) = ce at qe qf
 generalize firstT T 10 now ((sortZ (hts T)).drop ((sortZ (hts T)).countP (· < h))) = oe at qe qf
 simp only at qa qb
 generalize oa.getD trZ = ta at qa qb
 generalize oc.getD trZ = tc at qc qd
 generalize oe.getD trZ = te at qe qf
 have hls := hv.small
 have HV := Lib.hid hv
 obtain ⟨b1, b2, b3⟩ := id B5
 have b50 := b1 0
 generalize sortZ (hts T) = Hs at *
 have gl : ((Hs.length : Int) != (l.length : Int)) = false := by rw [HLL.out]; simp
 have HB5 := Lib.hid B5
 clear hM B hv hi hg hT hlT hd d B5
 go_enter Tryz.func45, Tryz.ntmps45
 go_wp2_with fail
 refine q1.mono ?_
 rintro e w2 ⟨vz, rfl, hz, hb⟩
 obtain ⟨za, zc, rfl⟩ := hz.form
 have hs1 : w.heap.size + 1 ≤ w2.heap.size := by have := hb.size; simp at this; omega
 have hb2 := hb0.trans (hb.mono hb0.size)
 have HB52 := Lib.hid (HB5.out.keep hb)
 obtain ⟨b1, b2, b3⟩ := id HB52.out
 have b50 := b1 0
 have hz2 : ZRow w2 (w.heap.size + 1) (.slice za Hs.length zc) Hs := hz.low (by simp)
 have HZ := Lib.hid hz2
 clear q1 hb hb0 hz hz2
 go_wp2_with fail
 go_loopw [10] (fun s10 wr => ∃ i : Nat, i ≤ Hs.length ∧ s10 = .int .i64 i ∧ Below w2.heap.size w2 wr) (fun s10 _ => Hs.length - (intOf s10).toNat)
 case atStart => exact ⟨0, by omega, rfl, Below.refl _ _⟩
 case round =>
  obtain ⟨i, hi, rfl, hbr⟩ := hrel
  have hbw := hb2.trans (hbr.mono hb2.size)
  clear b1 b2 b3 b50
  by_cases hlt : i < Hs.length
  ·obtain ⟨t, ht, hte⟩ := HLH.out i (by have := HLL.out; omega)
   have hil : i < l.length := by have := HLL.out; omega
   have hbd : 0 ≤ (i : Int) ∧ (i : Int) < (Hs.length : Int) := by omega
   have hbd2 : 0 ≤ (i : Int) ∧ (i : Int) < (l.length : Int) := by omega
   have hVr := HV.out.keep hbw
   obtain ⟨g, off, sk, ms, rfl, hgl, hR, _⟩ := hVr.at i t ht
   obtain ⟨g2, off2, e1, hg2, c1⟩ := ((HZ.out.is).keep hbr).at' i hlt
   subst e1
   have c2 := hR 0 _ rfl
   rw [hte] at c1
   have hB5 := HB52.out.keep hbr
   generalize t.head.height = th at *
   clear ht hte hR hVr
   go_wp2_with fail
   refine wp_held rfl (by kernel_rfl) ?_
   (refine qP ?_ ?_ ?_; rotate_left; focus (intro w; go_simp; try with_reducible rfl))
   try simp only [pna, pnb, pnc, pnd, pne]
   (refine qP ?_ ?_ ?_; rotate_left; focus (intro w; go_simp; try with_reducible rfl))
   try simp only [pna, pnb, pnc, pnd, pne]
   (refine qP ?_ ?_ ?_; rotate_left; focus (intro w; go_simp; try with_reducible rfl))
   try simp only [pna, pnb, pnc, pnd, pne]
   refine wpQ_load (by rfl) (.int .i64 th) (fun w' hb => (by have c := (hb.cell (p := ⟨g2, off2 + i, none⟩) hg2).trans c1; go_simp; try rfl)) ?_
   try simp only [pna, pnb, pnc, pnd, pne]
   (refine qP ?_ ?_ ?_; rotate_left; focus (intro w; go_simp; try with_reducible rfl))
   try simp only [pna, pnb, pnc, pnd, pne]
   refine wpQ_load (by rfl) (.slice (some ⟨g, off, none⟩) l.length lc) (fun w' hb => (by have c := (hB5.keep hb).cell 0; go_simp; try rfl)) ?_
   try simp only [pna, pnb, pnc, pnd, pne]
   (refine qP ?_ ?_ ?_; rotate_left; focus (intro w; go_simp; try with_reducible rfl))
   try simp only [pna, pnb, pnc, pnd, pne]
   (refine qP ?_ ?_ ?_; rotate_left; focus (intro w; go_simp; try with_reducible rfl))
   try simp only [pna, pnb, pnc, pnd, pne]
   (refine qP ?_ ?_ ?_; rotate_left; focus (intro w; go_simp; try with_reducible rfl))
   try simp only [pna, pnb, pnc, pnd, pne]
   (refine qP ?_ ?_ ?_; rotate_left; focus (intro w; go_simp; try with_reducible rfl))
   try simp only [pna, pnb, pnc, pnd, pne]
   refine wpQ_load (by rfl) (.int .i64 th) (fun w' hb => (by have c := (hb.cell (p := ⟨g, off + i * 13, none⟩) hgl).trans c2; go_simp; try rfl)) ?_
   try simp only [pna, pnb, pnc, pnd, pne]
   (refine qP ?_ ?_ ?_; rotate_left; focus (intro w; go_simp; try with_reducible rfl))
   try simp only [pna, pnb, pnc, pnd, pne]
   intro w5 hb5
   go_wp2_with fail
   exact ⟨⟨i + 1, by omega, by go_num, hbr.trans (hb5.mono hbr.size)⟩, by simp [intOf]; omega⟩
  ·have hil : i = Hs.length := by omega
   subst hil
   have q2 := spoilz_any (w.heap.size + 1) _ Hs wr (HZ.out.keep hbr)
   have hown := fun k hk => HZ.out.own k hk
   go_wp2_with fail
   refine q2.mono ?_
   rintro e w3 ⟨rfl, m3⟩
   have hb3 := Below.mod hbw m3 hbw.size (by intro x hx; have := hown x (Option.mem_toList.1 hx); omega)
   have B53 := (HB52.out.keep hbr).mod m3 (by intro hx; have := hown _ (Option.mem_toList.1 hx); omega)
   have HB53 := Lib.hid B53
   clear q2 m3 hown hbr hbw hi hlt HLL HLH gl HZ
   have hbn := hb3
   have hsz3 := hb3.size
   replace HB53 := HB53.out
   go_wp2_with (first | fail)
   refine (qa _ hbn).mono ?_
   rintro e ya ⟨v, rfl, hr, hby⟩
   obtain ⟨sk, ms, rfl, ra1, ra2⟩ := hr
   obtain ⟨saa, sac, rfl⟩ := ra1.form
   obtain ⟨uaa, uac, rfl⟩ := ra2.form
   replace hbn := hbn.trans (hby.mono hbn.size)
   have hsya := hby.size
   replace HB53 := HB53.keep hby
   have spa : ∀ x ∈ (Value.slice uaa ta.set.length uac).ownBlock.toList, _ ≤ x ∧ x < ya.heap.size := fun x hx => ⟨ra2.own x (Option.mem_toList.1 hx), ra2.at_lt (Option.mem_toList.1 hx)⟩
   clear qa hby
   go_wp2_with (first | (refine wpList_rowStore row_trust rfl rfl (.tmp 11) (.tmp 57) rfl rfl rfl (vs := [.int .i64 ta.head.height, .int .i64 ta.head.epoch, .int .i64 ta.head.view, .bool ta.head.last, .string ⟨List.toArray ta.head.parent⟩, .string ⟨List.toArray ta.head.state⟩, .string ⟨List.toArray ta.head.receipts⟩, .string ⟨List.toArray ta.head.txs⟩, .string ⟨List.toArray ta.head.members⟩, .string ⟨List.toArray ta.head.next⟩, .slice saa ta.head.skips.length sac, .slice uaa ta.set.length uac, .int .i64 ta.at_]) rfl (by simp [Value.oneCell']) (us := ztL) rfl (Blk.new' (by simp)) ?_; intro xa Na ma; have hbx := Below.mod (Below.allocS (Below.refl ya.heap.size ya) (.cells ztA 27)) ma (by simp) (by simp); replace hbn := hbn.trans (hbx.mono hbn.size); have hsxa := hbx.size; replace HB53 := HB53.keep hbx; replace ra1 := ra1.keep hbx; replace ra2 := ra2.keep hbx; clear hbx ma) | (refine wpList_rowLoad row_st rfl (.tmp 5) rfl rfl (vs := stcs (.slice la l.length lc) 10 ⟨s, safe, room, fuse, down⟩ br) rfl HB53 ?_) | fail)
   refine (qb _ hbn).mono ?_
   rintro e yb ⟨v, rfl, hr, hby⟩
   obtain ⟨sk, ms, rfl, rb1, rb2⟩ := hr
   obtain ⟨sba, sbc, rfl⟩ := rb1.form
   obtain ⟨uba, ubc, rfl⟩ := rb2.form
   replace hbn := hbn.trans (hby.mono hbn.size)
   have hsyb := hby.size
   replace HB53 := HB53.keep hby
   replace Na := Na.keep hby
   replace ra1 := ra1.keep hby
   replace ra2 := ra2.keep hby
   clear qb hby
   go_wp2_with (first | (refine wpList_rowStore row_trust rfl rfl (.tmp 13) (.tmp 64) rfl rfl rfl (vs := [.int .i64 ta.head.height, .int .i64 ta.head.epoch, .int .i64 ta.head.view, .bool ta.head.last, .string ⟨List.toArray ta.head.parent⟩, .string ⟨List.toArray ta.head.state⟩, .string ⟨List.toArray ta.head.receipts⟩, .string ⟨List.toArray ta.head.txs⟩, .string ⟨List.toArray ta.head.members⟩, .string ⟨List.toArray ta.head.next⟩, .slice sba ta.head.skips.length sbc, .slice uba ta.set.length ubc, .int .i64 ta.at_]) rfl (by simp [Value.oneCell']) (us := ztL) rfl (Blk.new' (by simp)) ?_; intro xb Nb mb; have hbx := Below.mod (Below.allocS (Below.refl yb.heap.size yb) (.cells ztA 27)) mb (by simp) (by simp); replace hbn := hbn.trans (hbx.mono hbn.size); have hsxb := hbx.size; replace HB53 := HB53.keep hbx; replace Na := Na.keep hbx; replace ra1 := ra1.keep hbx; replace ra2 := ra2.keep hbx; replace rb1 := rb1.keep hbx; replace rb2 := rb2.keep hbx; clear hbx mb) | fail)
   refine (qc _ hbn).mono ?_
   rintro e yc ⟨v, rfl, hr, hby⟩
   obtain ⟨sk, ms, rfl, rc1, rc2⟩ := hr
   obtain ⟨sca, scc, rfl⟩ := rc1.form
   obtain ⟨uca, ucc, rfl⟩ := rc2.form
   replace hbn := hbn.trans (hby.mono hbn.size)
   have hsyc := hby.size
   replace HB53 := HB53.keep hby
   replace Na := Na.keep hby
   replace ra1 := ra1.keep hby
   replace ra2 := ra2.keep hby
   replace Nb := Nb.keep hby
   replace rb1 := rb1.keep hby
   replace rb2 := rb2.keep hby
   have spc : ∀ x ∈ (Value.slice uca tc.set.length ucc).ownBlock.toList, _ ≤ x ∧ x < yc.heap.size := fun x hx => ⟨rc2.own x (Option.mem_toList.1 hx), rc2.at_lt (Option.mem_toList.1 hx)⟩
   clear qc hby
   go_wp2_with (first | (refine wpList_rowStore row_trust rfl rfl (.tmp 15) (.tmp 70) rfl rfl rfl (vs := [.int .i64 tc.head.height, .int .i64 tc.head.epoch, .int .i64 tc.head.view, .bool tc.head.last, .string ⟨List.toArray tc.head.parent⟩, .string ⟨List.toArray tc.head.state⟩, .string ⟨List.toArray tc.head.receipts⟩, .string ⟨List.toArray tc.head.txs⟩, .string ⟨List.toArray tc.head.members⟩, .string ⟨List.toArray tc.head.next⟩, .slice sca tc.head.skips.length scc, .slice uca tc.set.length ucc, .int .i64 tc.at_]) rfl (by simp [Value.oneCell']) (us := ztL) rfl (Blk.new' (by simp)) ?_; intro xc Nc mc; have hbx := Below.mod (Below.allocS (Below.refl yc.heap.size yc) (.cells ztA 27)) mc (by simp) (by simp); replace hbn := hbn.trans (hbx.mono hbn.size); have hsxc := hbx.size; replace HB53 := HB53.keep hbx; replace Na := Na.keep hbx; replace Nb := Nb.keep hbx; replace ra1 := ra1.keep hbx; replace ra2 := ra2.keep hbx; replace rb1 := rb1.keep hbx; replace rb2 := rb2.keep hbx; replace rc1 := rc1.keep hbx; replace rc2 := rc2.keep hbx; clear hbx mc) | (refine wpList_rowLoad row_st rfl (.tmp 5) rfl rfl (vs := stcs (.slice la l.length lc) 10 ⟨s, safe, room, fuse, down⟩ br) rfl HB53 ?_) | fail)
   refine (qd _ hbn).mono ?_
   rintro e yd ⟨v, rfl, hr, hby⟩
   obtain ⟨sk, ms, rfl, rd1, rd2⟩ := hr
   obtain ⟨sda, sdc, rfl⟩ := rd1.form
   obtain ⟨uda, udc, rfl⟩ := rd2.form
   replace hbn := hbn.trans (hby.mono hbn.size)
   have hsyd := hby.size
   replace HB53 := HB53.keep hby
   replace Na := Na.keep hby
   replace ra1 := ra1.keep hby
   replace ra2 := ra2.keep hby
   replace Nb := Nb.keep hby
   replace rb1 := rb1.keep hby
   replace rb2 := rb2.keep hby
   replace Nc := Nc.keep hby
   replace rc1 := rc1.keep hby
   replace rc2 := rc2.keep hby
   clear qd hby
   go_wp2_with (first | (refine wpList_rowStore row_trust rfl rfl (.tmp 17) (.tmp 76) rfl rfl rfl (vs := [.int .i64 tc.head.height, .int .i64 tc.head.epoch, .int .i64 tc.head.view, .bool tc.head.last, .string ⟨List.toArray tc.head.parent⟩, .string ⟨List.toArray tc.head.state⟩, .string ⟨List.toArray tc.head.receipts⟩, .string ⟨List.toArray tc.head.txs⟩, .string ⟨List.toArray tc.head.members⟩, .string ⟨List.toArray tc.head.next⟩, .slice sda tc.head.skips.length sdc, .slice uda tc.set.length udc, .int .i64 tc.at_]) rfl (by simp [Value.oneCell']) (us := ztL) rfl (Blk.new' (by simp)) ?_; intro xd Nd md; have hbx := Below.mod (Below.allocS (Below.refl yd.heap.size yd) (.cells ztA 27)) md (by simp) (by simp); replace hbn := hbn.trans (hbx.mono hbn.size); have hsxd := hbx.size; replace HB53 := HB53.keep hbx; replace Na := Na.keep hbx; replace Nb := Nb.keep hbx; replace Nc := Nc.keep hbx; replace ra1 := ra1.keep hbx; replace ra2 := ra2.keep hbx; replace rb1 := rb1.keep hbx; replace rb2 := rb2.keep hbx; replace rc1 := rc1.keep hbx; replace rc2 := rc2.keep hbx; replace rd1 := rd1.keep hbx; replace rd2 := rd2.keep hbx; clear hbx md) | fail)
   refine (qe _ hbn).mono ?_
   rintro e ye ⟨v, rfl, hr, hby⟩
   obtain ⟨sk, ms, rfl, re1, re2⟩ := hr
   obtain ⟨sea, sec, rfl⟩ := re1.form
   obtain ⟨uea, uec, rfl⟩ := re2.form
   replace hbn := hbn.trans (hby.mono hbn.size)
   have hsye := hby.size
   replace HB53 := HB53.keep hby
   replace Na := Na.keep hby
   replace ra1 := ra1.keep hby
   replace ra2 := ra2.keep hby
   replace Nb := Nb.keep hby
   replace rb1 := rb1.keep hby
   replace rb2 := rb2.keep hby
   replace Nc := Nc.keep hby
   replace rc1 := rc1.keep hby
   replace rc2 := rc2.keep hby
   replace Nd := Nd.keep hby
   replace rd1 := rd1.keep hby
   replace rd2 := rd2.keep hby
   have spe : ∀ x ∈ (Value.slice sea te.head.skips.length sec).ownBlock.toList, _ ≤ x ∧ x < ye.heap.size := fun x hx => ⟨re1.own x (Option.mem_toList.1 hx), re1.at_lt (Option.mem_toList.1 hx)⟩
   clear qe hby
   go_wp2_with (first | (refine wpList_rowStore row_trust rfl rfl (.tmp 19) (.tmp 83) rfl rfl rfl (vs := [.int .i64 te.head.height, .int .i64 te.head.epoch, .int .i64 te.head.view, .bool te.head.last, .string ⟨List.toArray te.head.parent⟩, .string ⟨List.toArray te.head.state⟩, .string ⟨List.toArray te.head.receipts⟩, .string ⟨List.toArray te.head.txs⟩, .string ⟨List.toArray te.head.members⟩, .string ⟨List.toArray te.head.next⟩, .slice sea te.head.skips.length sec, .slice uea te.set.length uec, .int .i64 te.at_]) rfl (by simp [Value.oneCell']) (us := ztL) rfl (Blk.new' (by simp)) ?_; intro xe Ne me; have hbx := Below.mod (Below.allocS (Below.refl ye.heap.size ye) (.cells ztA 27)) me (by simp) (by simp); replace hbn := hbn.trans (hbx.mono hbn.size); have hsxe := hbx.size; replace HB53 := HB53.keep hbx; replace Na := Na.keep hbx; replace Nb := Nb.keep hbx; replace Nc := Nc.keep hbx; replace Nd := Nd.keep hbx; replace ra1 := ra1.keep hbx; replace ra2 := ra2.keep hbx; replace rb1 := rb1.keep hbx; replace rb2 := rb2.keep hbx; replace rc1 := rc1.keep hbx; replace rc2 := rc2.keep hbx; replace rd1 := rd1.keep hbx; replace rd2 := rd2.keep hbx; replace re1 := re1.keep hbx; replace re2 := re2.keep hbx; clear hbx me) | (refine wpList_rowLoad row_st rfl (.tmp 5) rfl rfl (vs := stcs (.slice la l.length lc) 10 ⟨s, safe, room, fuse, down⟩ br) rfl HB53 ?_) | fail)
   refine (qf _ hbn).mono ?_
   rintro e yf ⟨v, rfl, hr, hby⟩
   obtain ⟨sk, ms, rfl, rf1, rf2⟩ := hr
   obtain ⟨sfa, sfc, rfl⟩ := rf1.form
   obtain ⟨ufa, ufc, rfl⟩ := rf2.form
   replace hbn := hbn.trans (hby.mono hbn.size)
   have hsyf := hby.size
   replace HB53 := HB53.keep hby
   replace Na := Na.keep hby
   replace ra1 := ra1.keep hby
   replace ra2 := ra2.keep hby
   replace Nb := Nb.keep hby
   replace rb1 := rb1.keep hby
   replace rb2 := rb2.keep hby
   replace Nc := Nc.keep hby
   replace rc1 := rc1.keep hby
   replace rc2 := rc2.keep hby
   replace Nd := Nd.keep hby
   replace rd1 := rd1.keep hby
   replace rd2 := rd2.keep hby
   replace Ne := Ne.keep hby
   replace re1 := re1.keep hby
   replace re2 := re2.keep hby
   clear qf hby
   go_wp2_with (first | (refine wpList_rowStore row_trust rfl rfl (.tmp 21) (.tmp 90) rfl rfl rfl (vs := [.int .i64 te.head.height, .int .i64 te.head.epoch, .int .i64 te.head.view, .bool te.head.last, .string ⟨List.toArray te.head.parent⟩, .string ⟨List.toArray te.head.state⟩, .string ⟨List.toArray te.head.receipts⟩, .string ⟨List.toArray te.head.txs⟩, .string ⟨List.toArray te.head.members⟩, .string ⟨List.toArray te.head.next⟩, .slice sfa te.head.skips.length sfc, .slice ufa te.set.length ufc, .int .i64 te.at_]) rfl (by simp [Value.oneCell']) (us := ztL) rfl (Blk.new' (by simp)) ?_; intro xf Nf mf; have hbx := Below.mod (Below.allocS (Below.refl yf.heap.size yf) (.cells ztA 27)) mf (by simp) (by simp); replace hbn := hbn.trans (hbx.mono hbn.size); have hsxf := hbx.size; replace Na := Na.keep hbx; replace ra1 := ra1.keep hbx; replace ra2 := ra2.keep hbx; replace Nb := Nb.keep hbx; replace rb1 := rb1.keep hbx; replace rb2 := rb2.keep hbx; replace Nc := Nc.keep hbx; replace rc1 := rc1.keep hbx; replace rc2 := rc2.keep hbx; replace Nd := Nd.keep hbx; replace rd1 := rd1.keep hbx; replace rd2 := rd2.keep hbx; replace Ne := Ne.keep hbx; replace re1 := re1.keep hbx; replace re2 := re2.keep hbx; replace rf1 := rf1.keep hbx; replace rf2 := rf2.keep hbx; clear hbx mf) | (refine wpList_rowLoad row_trust rfl (.tmp 11) rfl rfl (vs := [.int .i64 ta.head.height, .int .i64 ta.head.epoch, .int .i64 ta.head.view, .bool ta.head.last, .string ⟨List.toArray ta.head.parent⟩, .string ⟨List.toArray ta.head.state⟩, .string ⟨List.toArray ta.head.receipts⟩, .string ⟨List.toArray ta.head.txs⟩, .string ⟨List.toArray ta.head.members⟩, .string ⟨List.toArray ta.head.next⟩, .slice saa ta.head.skips.length sac, .slice uaa ta.set.length uac, .int .i64 ta.at_]) rfl Na ?_) | (refine wpList_rowLoad row_trust rfl (.tmp 13) rfl rfl (vs := [.int .i64 ta.head.height, .int .i64 ta.head.epoch, .int .i64 ta.head.view, .bool ta.head.last, .string ⟨List.toArray ta.head.parent⟩, .string ⟨List.toArray ta.head.state⟩, .string ⟨List.toArray ta.head.receipts⟩, .string ⟨List.toArray ta.head.txs⟩, .string ⟨List.toArray ta.head.members⟩, .string ⟨List.toArray ta.head.next⟩, .slice sba ta.head.skips.length sbc, .slice uba ta.set.length ubc, .int .i64 ta.at_]) rfl Nb ?_) | fail)
   have qs := sametr_any (.agg #[.int .i64 ta.head.height, .int .i64 ta.head.epoch, .int .i64 ta.head.view, .bool ta.head.last, .string ⟨List.toArray ta.head.parent⟩, .string ⟨List.toArray ta.head.state⟩, .string ⟨List.toArray ta.head.receipts⟩, .string ⟨List.toArray ta.head.txs⟩, .string ⟨List.toArray ta.head.members⟩, .string ⟨List.toArray ta.head.next⟩, .slice saa ta.head.skips.length sac, .slice uaa ta.set.length uac, .int .i64 ta.at_]) (.agg #[.int .i64 ta.head.height, .int .i64 ta.head.epoch, .int .i64 ta.head.view, .bool ta.head.last, .string ⟨List.toArray ta.head.parent⟩, .string ⟨List.toArray ta.head.state⟩, .string ⟨List.toArray ta.head.receipts⟩, .string ⟨List.toArray ta.head.txs⟩, .string ⟨List.toArray ta.head.members⟩, .string ⟨List.toArray ta.head.next⟩, .slice sba ta.head.skips.length sbc, .slice uba ta.set.length ubc, .int .i64 ta.at_]) ta ta _ ⟨_, _, rfl, ra1.ss, ra2.ms⟩ ⟨_, _, rfl, rb1, rb2⟩
   rw [sameTr_self] at qs
   refine qs.mono ?_
   rintro e z1 ⟨rfl, hbz⟩
   replace hbn := hbn.trans (hbz.mono hbn.size)
   replace Na := Na.keep hbz
   replace ra1 := ra1.keep hbz
   replace ra2 := ra2.keep hbz
   replace Nb := Nb.keep hbz
   replace rb1 := rb1.keep hbz
   replace rb2 := rb2.keep hbz
   replace Nc := Nc.keep hbz
   replace rc1 := rc1.keep hbz
   replace rc2 := rc2.keep hbz
   replace Nd := Nd.keep hbz
   replace rd1 := rd1.keep hbz
   replace rd2 := rd2.keep hbz
   replace Ne := Ne.keep hbz
   replace re1 := re1.keep hbz
   replace re2 := re2.keep hbz
   replace Nf := Nf.keep hbz
   replace rf1 := rf1.keep hbz
   replace rf2 := rf2.keep hbz
   clear qs hbz
   go_wp2_with (first | (refine wpList_rowLoadG row_trust ?hw (.tmp 15) rfl rfl (vs := [.int .i64 tc.head.height, .int .i64 tc.head.epoch, .int .i64 tc.head.view, .bool tc.head.last, .string ⟨List.toArray tc.head.parent⟩, .string ⟨List.toArray tc.head.state⟩, .string ⟨List.toArray tc.head.receipts⟩, .string ⟨List.toArray tc.head.txs⟩, .string ⟨List.toArray tc.head.members⟩, .string ⟨List.toArray tc.head.next⟩, .slice sca tc.head.skips.length scc, .slice uca tc.set.length ucc, .int .i64 tc.at_]) rfl Nc ?_; (case hw => rfl)) | (refine wpList_rowLoadG row_trust ?hw (.tmp 17) rfl rfl (vs := [.int .i64 tc.head.height, .int .i64 tc.head.epoch, .int .i64 tc.head.view, .bool tc.head.last, .string ⟨List.toArray tc.head.parent⟩, .string ⟨List.toArray tc.head.state⟩, .string ⟨List.toArray tc.head.receipts⟩, .string ⟨List.toArray tc.head.txs⟩, .string ⟨List.toArray tc.head.members⟩, .string ⟨List.toArray tc.head.next⟩, .slice sda tc.head.skips.length sdc, .slice uda tc.set.length udc, .int .i64 tc.at_]) rfl Nd ?_; (case hw => rfl)) | fail)
   have qs := sametr_any (.agg #[.int .i64 tc.head.height, .int .i64 tc.head.epoch, .int .i64 tc.head.view, .bool tc.head.last, .string ⟨List.toArray tc.head.parent⟩, .string ⟨List.toArray tc.head.state⟩, .string ⟨List.toArray tc.head.receipts⟩, .string ⟨List.toArray tc.head.txs⟩, .string ⟨List.toArray tc.head.members⟩, .string ⟨List.toArray tc.head.next⟩, .slice sca tc.head.skips.length scc, .slice uca tc.set.length ucc, .int .i64 tc.at_]) (.agg #[.int .i64 tc.head.height, .int .i64 tc.head.epoch, .int .i64 tc.head.view, .bool tc.head.last, .string ⟨List.toArray tc.head.parent⟩, .string ⟨List.toArray tc.head.state⟩, .string ⟨List.toArray tc.head.receipts⟩, .string ⟨List.toArray tc.head.txs⟩, .string ⟨List.toArray tc.head.members⟩, .string ⟨List.toArray tc.head.next⟩, .slice sda tc.head.skips.length sdc, .slice uda tc.set.length udc, .int .i64 tc.at_]) tc tc _ ⟨_, _, rfl, rc1.ss, rc2.ms⟩ ⟨_, _, rfl, rd1, rd2⟩
   rw [sameTr_self] at qs
   refine qs.mono ?_
   rintro e z2 ⟨rfl, hbz⟩
   replace hbn := hbn.trans (hbz.mono hbn.size)
   replace Na := Na.keep hbz
   replace ra1 := ra1.keep hbz
   replace ra2 := ra2.keep hbz
   replace Nb := Nb.keep hbz
   replace rb1 := rb1.keep hbz
   replace rb2 := rb2.keep hbz
   replace Nc := Nc.keep hbz
   replace rc1 := rc1.keep hbz
   replace rc2 := rc2.keep hbz
   replace Nd := Nd.keep hbz
   replace rd1 := rd1.keep hbz
   replace rd2 := rd2.keep hbz
   replace Ne := Ne.keep hbz
   replace re1 := re1.keep hbz
   replace re2 := re2.keep hbz
   replace Nf := Nf.keep hbz
   replace rf1 := rf1.keep hbz
   replace rf2 := rf2.keep hbz
   clear qs hbz
   go_wp2_with (first | (refine wpList_rowLoadG row_trust ?hw (.tmp 19) rfl rfl (vs := [.int .i64 te.head.height, .int .i64 te.head.epoch, .int .i64 te.head.view, .bool te.head.last, .string ⟨List.toArray te.head.parent⟩, .string ⟨List.toArray te.head.state⟩, .string ⟨List.toArray te.head.receipts⟩, .string ⟨List.toArray te.head.txs⟩, .string ⟨List.toArray te.head.members⟩, .string ⟨List.toArray te.head.next⟩, .slice sea te.head.skips.length sec, .slice uea te.set.length uec, .int .i64 te.at_]) rfl Ne ?_; (case hw => rfl)) | (refine wpList_rowLoadG row_trust ?hw (.tmp 21) rfl rfl (vs := [.int .i64 te.head.height, .int .i64 te.head.epoch, .int .i64 te.head.view, .bool te.head.last, .string ⟨List.toArray te.head.parent⟩, .string ⟨List.toArray te.head.state⟩, .string ⟨List.toArray te.head.receipts⟩, .string ⟨List.toArray te.head.txs⟩, .string ⟨List.toArray te.head.members⟩, .string ⟨List.toArray te.head.next⟩, .slice sfa te.head.skips.length sfc, .slice ufa te.set.length ufc, .int .i64 te.at_]) rfl Nf ?_; (case hw => rfl)) | fail)
   have qs := sametr_any (.agg #[.int .i64 te.head.height, .int .i64 te.head.epoch, .int .i64 te.head.view, .bool te.head.last, .string ⟨List.toArray te.head.parent⟩, .string ⟨List.toArray te.head.state⟩, .string ⟨List.toArray te.head.receipts⟩, .string ⟨List.toArray te.head.txs⟩, .string ⟨List.toArray te.head.members⟩, .string ⟨List.toArray te.head.next⟩, .slice sea te.head.skips.length sec, .slice uea te.set.length uec, .int .i64 te.at_]) (.agg #[.int .i64 te.head.height, .int .i64 te.head.epoch, .int .i64 te.head.view, .bool te.head.last, .string ⟨List.toArray te.head.parent⟩, .string ⟨List.toArray te.head.state⟩, .string ⟨List.toArray te.head.receipts⟩, .string ⟨List.toArray te.head.txs⟩, .string ⟨List.toArray te.head.members⟩, .string ⟨List.toArray te.head.next⟩, .slice sfa te.head.skips.length sfc, .slice ufa te.set.length ufc, .int .i64 te.at_]) te te _ ⟨_, _, rfl, re1.ss, re2.ms⟩ ⟨_, _, rfl, rf1, rf2⟩
   rw [sameTr_self] at qs
   refine qs.mono ?_
   rintro e z3 ⟨rfl, hbz⟩
   replace hbn := hbn.trans (hbz.mono hbn.size)
   replace Na := Na.keep hbz
   replace ra1 := ra1.keep hbz
   replace ra2 := ra2.keep hbz
   replace Nb := Nb.keep hbz
   replace rb1 := rb1.keep hbz
   replace rb2 := rb2.keep hbz
   replace Nc := Nc.keep hbz
   replace rc1 := rc1.keep hbz
   replace rc2 := rc2.keep hbz
   replace Nd := Nd.keep hbz
   replace rd1 := rd1.keep hbz
   replace rd2 := rd2.keep hbz
   replace Ne := Ne.keep hbz
   replace re1 := re1.keep hbz
   replace re2 := re2.keep hbz
   replace Nf := Nf.keep hbz
   replace rf1 := rf1.keep hbz
   replace rf2 := rf2.keep hbz
   clear qs hbz
   clear Nb Nd Nf rb1 rb2 rd1 rd2 rf1 rf2 ra1 rc1 re2
   have hc11 := Na.cell 11
   go_wp2_with fail
   have q17 := spoilm_any _ _ _ _ ra2
   refine q17.mono ?_
   rintro e z4 ⟨rfl, m4⟩
   have na4 : ∀ x ∈ (Value.slice uaa ta.set.length uac).ownBlock.toList, w.heap.size ≤ x ∧ x < ya.heap.size := fun x hx => by have := spa x hx; omega
   replace Nc := Nc.mod m4 (by intro hx; have := na4 _ hx; omega)
   replace Ne := Ne.mod m4 (by intro hx; have := na4 _ hx; omega)
   replace rc2 := MRow.modlS rc2 m4 (by intro x hx; have := na4 x hx; omega)
   replace re1 := SRow.modlS re1 m4 (by intro x hx; have := na4 x hx; omega)
   replace hbn := Below.mod hbn m4 hbn.size (by intro x hx; have := na4 x hx; omega)
   clear q17 m4 hc11 Na ra2
   have hc11 := Nc.cell 11
   go_wp2_with fail
   have q18 := spoilm_any _ _ _ _ rc2
   refine q18.mono ?_
   rintro e z5 ⟨rfl, m5⟩
   have nc4 : ∀ x ∈ (Value.slice uca tc.set.length ucc).ownBlock.toList, w.heap.size ≤ x ∧ x < yc.heap.size := fun x hx => by have := spc x hx; omega
   replace Ne := Ne.mod m5 (by intro hx; have := nc4 _ hx; omega)
   replace re1 := SRow.modlS re1 m5 (by intro x hx; have := nc4 x hx; omega)
   replace hbn := Below.mod hbn m5 hbn.size (by intro x hx; have := nc4 x hx; omega)
   clear q18 m5 hc11 Nc rc2
   have hc10 := Ne.cell 10
   go_wp2_with fail
   have q19 := spoil_any _ _ _ _ re1
   refine q19.mono ?_
   rintro e z6 ⟨rfl, m6⟩
   have ne4 : ∀ x ∈ (Value.slice sea te.head.skips.length sec).ownBlock.toList, w.heap.size ≤ x := fun x hx => by have := spe x hx; omega
   replace hbn := Below.mod hbn m6 hbn.size ne4
   clear q19 m6 hc10 Ne re1
   go_wp2_with fail
   go_ret
   exact ⟨rfl, hbn⟩
end Go.Proofs.YthgjdaomcpinaaaGreatDoor
namespace Go.Proofs.YthgjdaomcpinaaaGreatDoor
open Go.RowKit Go.Maps Pl
theorem range4 {w : World} {g o : Nat} {a b c d : Value} (h : w.rangeAt g o [a, b, c, d]) : w.cell? ⟨g, o, none⟩ = some a ∧ w.cell? ⟨g, o + 1, none⟩ = some b ∧ w.cell? ⟨g, o + 2, none⟩ = some c ∧ w.cell? ⟨g, o + 3, none⟩ = some d :=
 ⟨by simpa using h 0 a rfl, h 1 b rfl, h 2 c rfl, h 3 d rfl⟩
theorem long_any (v : Value) (l : List ActP) (w : World) (hv : AS w v l) :
  Calls Tryz.prog 35 #[v] w fun e w' => ∃ b : Bool, e = .returned (.bool b) ∧ (b = false → l.length ≤ 20 ∧ ∀ a ∈ l, a.l.length ≤ 6 ∧ a.hs.length ≤ 20) ∧ Below w.heap.size w w' := by
 obtain ⟨a, cap, rfl⟩ := hv.form
 have hls := hv.small
 have HV := Lib.hid hv
 clear hv
 by_cases h20 : 20 < l.length
 ·have d0 : decide (20 < (l.length : Int)) = true := by simp; omega
  clear h20
  go_enter Tryz.func35, Tryz.ntmps35
  go_wp2_with fail
  all_goals (go_ret; exact ⟨true, rfl, fun h => (by cases h), Below.refl _ _⟩)
 ·have d0 : decide (20 < (l.length : Int)) = false := by simp; omega
  have HL20 : Hid (l.length ≤ 20) := Lib.hid (by omega)
  clear h20
  go_enter Tryz.func35, Tryz.ntmps35
  go_wp2_with fail
  go_loopw [3] (fun s3 wr => ∃ i : Nat, i ≤ l.length ∧ s3 = .int .i64 i ∧ Hid (∀ a ∈ l.take i, a.l.length ≤ 6 ∧ a.hs.length ≤ 20) ∧ Below w.heap.size w wr) (fun s3 _ => l.length - (intOf s3).toNat)
  case atStart => exact ⟨0, by omega, rfl, Lib.hid (by simp), Below.refl _ _⟩
  case round =>
   obtain ⟨i, hi, rfl, HA, hbr⟩ := hrel
   by_cases hlt : i < l.length
   ·obtain ⟨x, hx⟩ : ∃ x, l[i]? = some x := ⟨l[i], List.getElem?_eq_getElem hlt⟩
    have hbd : 0 ≤ (i : Int) ∧ (i : Int) < (l.length : Int) := by omega
    obtain ⟨g, off, vl, vh, rfl, hg, hR, hTL, hIS, _⟩ := HV.out.at i x hx
    obtain ⟨xa, xc, rfl⟩ := hTL.form
    obtain ⟨ya, yc, rfl⟩ : ∃ ya yc, vh = .slice ya x.hs.length yc := by obtain ⟨ya, yc, h, _⟩ := hIS; exact ⟨ya, yc, h⟩
    have HR := Lib.hid (rangeAt_keep hR hg hbr)
    obtain ⟨_, _, c2, c3⟩ := range4 HR.out
    have hxl := hTL.small
    have HTK : Hid (x.l.length ≤ 6 ∧ x.hs.length ≤ 20 → ∀ a ∈ l.take (i + 1), a.l.length ≤ 6 ∧ a.hs.length ≤ 20) := Lib.hid (fun h a ha => by
     rw [List.take_add_one, hx] at ha
     rcases List.mem_append.1 ha with ha | ha
     ·exact HA.out a ha
     ·have : a = x := by simpa using ha
      rw [this]; exact h)
    have HTL := Lib.hid hTL
    clear hx hR hTL hIS HA
    by_cases h6 : 6 < x.l.length
    ·have d1 : decide (6 < (x.l.length : Int)) = true := by simp; omega
     clear h6
     go_wp2_with fail
     all_goals (go_ret; exact ⟨true, rfl, fun h => (by cases h), hbr⟩)
    ·have d1 : decide (6 < (x.l.length : Int)) = false := by simp; omega
     by_cases h7 : 20 < x.hs.length
     ·have d2 : decide (20 < (x.hs.length : Int)) = true := by simp; omega
      clear h6 h7
      go_wp2_with fail
      all_goals (go_ret; exact ⟨true, rfl, fun h => (by cases h), hbr⟩)
     ·have d2 : decide (20 < (x.hs.length : Int)) = false := by simp; omega
      have HNX := Lib.hid (HTK.out ⟨by omega, by omega⟩)
      clear h6 h7 HTK
      go_wp2_with fail
      go_loopw [4] (fun s4 wq => ∃ k : Nat, k ≤ x.l.length ∧ s4 = .int .i64 k ∧ Below w.heap.size w wq ∧ Hid (wq.rangeAt g (off + i * 4) [.int .i64 x.kind, .int .i64 x.n, .slice xa x.l.length xc, .slice ya x.hs.length yc])) (fun s4 _ => x.l.length - (intOf s4).toNat)
      case atStart => exact ⟨0, by omega, rfl, hbr, HR⟩
      case round =>
       clear c2 c3 HR
       obtain ⟨k, hk, rfl, hbk, HR⟩ := hrel
       obtain ⟨_, _, c2, c3⟩ := range4 HR.out
       by_cases hlk : k < x.l.length
       ·obtain ⟨t, ht⟩ : ∃ t, x.l[k]? = some t := ⟨x.l[k], List.getElem?_eq_getElem hlk⟩
        have hbk2 : 0 ≤ (k : Int) ∧ (k : Int) < (x.l.length : Int) := by omega
        obtain ⟨g2, off2, sk, ms, rfl, hg2, hR2, s1, s2, _, _⟩ := (HTL.out.keep hbk).at k t ht
        have q1 := big_any _ t _ (show TV _ (.agg (tcs t sk ms).toArray) t from ⟨sk, ms, rfl, s1, s2⟩)
        generalize bigT t = bt at *
        clear ht s1 s2
        go_wp2_with (first | (refine wpList_rowLoadAt row_trust rfl (.tmp 46) rfl rfl rfl hR2 ?_) | fail)
        refine q1.mono ?_
        rintro e w5 ⟨rfl, hb5⟩
        have HR5 := Lib.hid (rangeAt_keep HR.out (Nat.lt_of_lt_of_le hg hbk.size) hb5)
        have hb6 := hbk.trans (hb5.mono hbk.size)
        clear q1 c2 c3 hR2 HR
        cases bt
        ·go_wp2_with fail
         exact ⟨⟨k + 1, by omega, by go_num, hb6, HR5⟩, by simp [intOf]; omega⟩
        ·go_wp2_with fail
         all_goals (go_ret; exact ⟨true, rfl, fun h => (by cases h), hb6⟩)
       ·have hkl : k = x.l.length := by omega
        subst hkl
        go_wp2_with fail
        exact ⟨⟨i + 1, by omega, by go_num, HNX, hbk⟩, by simp [intOf]; omega⟩
   ·have hil : i = l.length := by omega
    subst hil
    have HN : Hid (∀ a ∈ l, a.l.length ≤ 6 ∧ a.hs.length ≤ 20) := Lib.hid (by have h := HA.out; rw [List.take_length] at h; exact h)
    clear HA
    go_wp2_with fail
    all_goals (go_ret; exact ⟨false, rfl, fun _ => ⟨HL20.out, HN.out⟩, hbr⟩)
end Go.Proofs.YthgjdaomcpinaaaGreatDoor
