/- RAt. -/
import Derived.Test.YthgjdaomcpinaaaGreatDoorMp37
set_option linter.unnecessarySimpa false
set_option linter.unusedSimpArgs false
set_option linter.unusedVariables false
set_option maxRecDepth 100000
set_option maxHeartbeats 32000000
namespace Go.Proofs.YthgjdaomcpinaaaGreatDoor
open Go.RowKit Go.WideMaps Go.Maps Go.Sort Go.Shelf Pl
def OV (w : World) (av : List Nat) (v : Value) (o : Option Tr) : Prop := match o with
 | some t => ∃ sk ms, v = .agg (tcs t sk ms).toArray ∧ ElA w av (t, sk, ms)
 | none => v = nilT
def atR (l : List Tr) (sp now h : Int) : Option Tr × Int :=
 if thereL h l = true then (match l[findN h l]? with | some t => if staleR sp now t = true then (none, 330) else (some t, 0) | none => (none, 5)) else (none, 5)
theorem atR_no {l : List Tr} {sp now h : Int} (hh : thereL h l = false) : atR l sp now h = (none, 5) := by unfold atR; rw [hh]; rfl
theorem atR_yes {l : List Tr} {sp now h : Int} {t : Tr} (hh : thereL h l = true) (ht : l[findN h l]? = some t) : atR l sp now h = if staleR sp now t = true then (none, 330) else (some t, 0) := by unfold atR; rw [if_pos hh, ht]
def bestG (sp now : Int) (o : Option Tr) : List Tr → Option Tr
 | [] => o
 | t :: r => bestG sp now (if staleR sp now t = true then o else some t) r
def bestR (l : List Tr) (sp now : Int) : Option Tr × Int := if l = [] then (none, 5) else match bestG sp now none l with | some t => (some t, 0) | none => (none, 330)
def abR (sp now h : Int) (c : Int) : List Tr → Option Tr × Int
 | [] => (none, c)
 | t :: r => if t.head.height < h then abR sp now h c r else if staleR sp now t = true then abR sp now h 330 r else (some t, 0)
theorem res_tr2 {fn : Func} {a b : Nat} (h : fn.results = #[.cell a 27, .tmp b]) (tmps : Array Value) (W : World) (vs : List Value) (hl : vs.length = 13) (k : Nat) (hp : tmps.getD a undef = .pointer (some ⟨k, 0, none⟩)) (hB : Blk W k vs.toArray) :
  (results fn tmps).run Tryz.prog W = .ok (.tuple #[.agg vs.toArray, tmps.getD b undef]) W :=
 results_cell_tmp2 h tmps W _ _ hp (row_loadVar row_trust W hl hB)
abbrev ztr : List Value := [.int .i64 0, .int .i64 0, .int .i64 0, .bool false, .string ⟨List.toArray []⟩, .string ⟨List.toArray []⟩, .string ⟨List.toArray []⟩, .string ⟨List.toArray []⟩, .string ⟨List.toArray []⟩, .string ⟨List.toArray []⟩, .slice none 0 0, .slice none 0 0, .int .i64 0]
theorem two_sx (w : World) (lv : Value) (sp : Int) (d : Dk) (b : Bool) : Blk ((w.alloc (.cells (stcs lv sp d b).toArray 76)).alloc (.cells ztr.toArray 27)) w.heap.size (stcs lv sp d b).toArray ∧
  Blk ((w.alloc (.cells (stcs lv sp d b).toArray 76)).alloc (.cells ztr.toArray 27)) (w.heap.size + 1) ztr.toArray ∧
  Below w.heap.size w ((w.alloc (.cells (stcs lv sp d b).toArray 76)).alloc (.cells ztr.toArray 27)) :=
 ⟨(Blk.new _ _ _).alloc _, Blk.new' (by simp), Below.allocS (Below.allocS (Below.refl _ _) _) _⟩
theorem rat_any (av : List Nat) (lv : Value) (l : List Tr) (sp now h : Int) (hsp : 0 ≤ sp ∧ sp ≤ 1099511627776) (hn : -9223372036854775808 ≤ now ∧ now ≤ 9223372036854775807) (d : Dk) (b : Bool) (w : World) (hv : TLA w av lv l) :
  Calls Tryz.prog 92 #[stv lv sp d b, .int .i64 h, .int .i64 now] w fun e w' => ∃ v', e = .returned (.tuple #[v', .int .i64 ((atR l sp now h).2)]) ∧ OV w' av v' (atR l sp now h).1 ∧ Below w.heap.size w w' := by
 have q1 := fun W (hb : Below w.heap.size w W) => rfind_any av lv l h W (hv.keep hb)
 obtain ⟨a, c, rfl⟩ := hv.form
 have hls := hv.small
 have hth := thereL_lt h l
 have HA1 := Lib.hid (fun hh => atR_no (l := l) (sp := sp) (now := now) (h := h) hh)
 have HA2 := Lib.hid (fun t hh ht => atR_yes (l := l) (sp := sp) (now := now) (h := h) (t := t) hh ht)
 generalize atR l sp now h = R at *
 generalize findN h l = n at *
 generalize thereL h l = th at *
 obtain ⟨s, safe, room, fuse, down⟩ := d
 obtain ⟨B1, B2, hb2⟩ := two_sx w (.slice a l.length c) sp ⟨s, safe, room, fuse, down⟩ b
 have HV := Lib.hid hv
 have HTH := Lib.hid hth
 clear hv hth
 go_enter Tryz.func92, Tryz.ntmps92
 go_wp2_with fail
 refine (q1 _ hb2).mono ?_
 rintro e w3 ⟨rfl, hb⟩
 have B13 := B1.keep hb
 have B23 := B2.keep hb
 have hb3 := hb2.trans (hb.mono hb2.size)
 have hs3 : w.heap.size + 2 ≤ w3.heap.size := by have := hb.size; simp at this; exact this
 clear q1 B1 B2 hb hb2
 cases th
 ·have HR : Hid (R = (none, 5)) := Lib.hid (HA1.out rfl)
  clear HA1 HA2 HTH
  go_wp2_with (first | (refine wpList_rowStore row_trust rfl rfl (.tmp 6) (.tmp 19) rfl rfl rfl (vs := ztr) rfl (by simp [Value.oneCell']) (us := ztr) rfl B23 ?_; intro w4 N4 m4) | fail)
  have hb4 := mod_two hb3 m4 (by omega) (by omega)
  refine bodyPost_ret (res_tr2 rfl _ _ ztr rfl _ rfl N4) rfl ?_
  rw [HR.out]
  exact ⟨_, rfl, rfl, hb4⟩
 ·have hnl := HTH.out rfl
  obtain ⟨t, ht⟩ : ∃ t, l[n]? = some t := ⟨l[n], List.getElem?_eq_getElem hnl⟩
  obtain ⟨g, off, sk, ms, rfl, hg, hR, hE⟩ := HV.out.at n t ht
  have HR : Hid (R = if staleR sp now t = true then (none, 330) else (some t, 0)) := Lib.hid (HA2.out t rfl ht)
  obtain ⟨ka, kc, hk, _⟩ := id hE.ss
  obtain ⟨ma, mc, hm, _⟩ := id hE.ms
  simp only at hk hm
  subst hk hm
  have q2 := fun W => rstale_any (some ⟨g, off, none⟩) l.length c sp now hsp hn ⟨s, safe, room, fuse, down⟩ b t ka kc ma mc W
  have hbd : 0 ≤ (n : Int) ∧ (n : Int) < (l.length : Int) := by omega
  have HE := Lib.hid hE
  generalize staleR sp now t = st at *
  obtain ⟨m1, m2, m3⟩ := id B13
  have m10 := m1 0
  clear HA1 HA2 HTH ht hnl hE
  go_wp2_with fail
  refine wp_held rfl (by kernel_rfl) ?_
  refine wpQ_row row_st (by rfl) (.tmp 3) rfl rfl (vs := stcs (.slice (some ⟨g, off, none⟩) l.length c) sp ⟨s, safe, room, fuse, down⟩ b) (rfl) (fun w' hb2 => B13.keep hb2) ?_
  try simp only [pna, pnb, pnc, pnd, pne]
  (refine qP ?_ ?_ ?_; rotate_left; focus (intro w; go_simp; try with_reducible rfl))
  try simp only [pna, pnb, pnc, pnd, pne]
  refine wpQ_load (by rfl) (.slice (some ⟨g, off, none⟩) l.length c) (fun w' hb2 => (by have c := (B13.keep hb2).cell 0; go_simp; try rfl)) ?_
  try simp only [pna, pnb, pnc, pnd, pne]
  (refine qP ?_ ?_ ?_; rotate_left; focus (intro w; go_simp; try with_reducible rfl))
  try simp only [pna, pnb, pnc, pnd, pne]
  refine wpQ_pure (by rfl) (.pointer (some ⟨g, off + n * 13, none⟩)) (fun w => (by go_simp; try rfl)) ?_
  try simp only [pna, pnb, pnc, pnd, pne]
  refine wpQ_load (by rfl) (.agg (tcs t (.slice ka t.head.skips.length kc) (.slice ma t.set.length mc)).toArray) (fun w' hb2 => exec_rowAt row_trust (.tmp 24) rfl rfl rfl (rangeAt_keep hR hg (hb3.trans (hb2.mono hb3.size)))) ?_
  try simp only [pna, pnb, pnc, pnd, pne]
  (refine qP ?_ ?_ ?_; rotate_left; focus (intro w; go_simp; try with_reducible rfl))
  try simp only [pna, pnb, pnc, pnd, pne]
  refine wpQ_call (by rfl) _ _ (.bool st) (fun w' hb2 => (q2 w').mono fun _ _ ⟨he, hb4⟩ => ⟨he, hb2.trans (hb4.mono hb2.size)⟩) (by intro w; go_simp; try rfl) ?_
  try simp only [pna, pnb, pnc, pnd, pne]
  intro w5 hS
  have B15 := B13.keep hS
  have B25 := B23.keep hS
  have hb5 := hb3.trans (hS.mono hb3.size)
  have hs5 := hS.size
  have hR5 := rangeAt_keep hR hg hb5
  obtain ⟨m1, m2, m3⟩ := id B15
  have m10 := m1 0
  unfold tcs at hR5
  clear q2 B13 B23 hS
  cases st
  ·go_wp2_with (first
    | (refine wpList_rowLoadAt row_trust rfl (.tmp 32) rfl rfl rfl hR5 ?_)
    | (refine wpList_rowStore row_trust rfl rfl (.tmp 6) (.tmp 33) rfl rfl rfl (vs := [.int .i64 t.head.height, .int .i64 t.head.epoch, .int .i64 t.head.view, .bool t.head.last, .string ⟨List.toArray t.head.parent⟩, .string ⟨List.toArray t.head.state⟩, .string ⟨List.toArray t.head.receipts⟩, .string ⟨List.toArray t.head.txs⟩, .string ⟨List.toArray t.head.members⟩, .string ⟨List.toArray t.head.next⟩, .slice ka t.head.skips.length kc, .slice ma t.set.length mc, .int .i64 t.at_]) rfl (by simp [Value.oneCell']) (us := ztr) rfl B25 ?_; intro w6 N6 m6))
   have hb6 := mod_two hb5 m6 (by omega) (by omega)
   have hE6 := HE.out.keep hb6
   refine bodyPost_ret (res_tr2 rfl _ _ _ rfl _ rfl N6) rfl ?_
   rw [HR.out]
   exact ⟨_, rfl, ⟨_, _, rfl, hE6⟩, hb6⟩
  ·go_wp2_with (first | (refine wpList_rowStore row_trust rfl rfl (.tmp 6) (.tmp 28) rfl rfl rfl (vs := ztr) rfl (by simp [Value.oneCell']) (us := ztr) rfl B25 ?_; intro w6 N6 m6) | fail)
   have hb6 := mod_two hb5 m6 (by omega) (by omega)
   refine bodyPost_ret (res_tr2 rfl _ _ ztr rfl _ rfl N6) rfl ?_
   rw [HR.out]
   exact ⟨_, rfl, rfl, hb6⟩
theorem bestR_nil (sp now : Int) : bestR [] sp now = (none, 5) := rfl
theorem bestR_some {l : List Tr} {sp now : Int} {t : Tr} (h0 : l ≠ []) (h : bestG sp now none l = some t) : bestR l sp now = (some t, 0) := by unfold bestR; rw [if_neg h0, h]
theorem bestR_none {l : List Tr} {sp now : Int} (h0 : l ≠ []) (h : bestG sp now none l = none) : bestR l sp now = (none, 330) := by unfold bestR; rw [if_neg h0, h]
theorem bestG_cons (sp now : Int) (o : Option Tr) (t : Tr) (r : List Tr) : bestG sp now o (t :: r) = bestG sp now (if staleR sp now t = true then o else some t) r := rfl
def BestAt (l : List Tr) (bi : Int) (o : Option Tr) : Prop := (bi = -1 ∧ o = none) ∨ ∃ (j : Nat) (t : Tr), bi = j ∧ l[j]? = some t ∧ o = some t
theorem rbest_any (av : List Nat) (lv : Value) (l : List Tr) (sp now : Int) (hl : l.length ≤ 1000) (hsp : 0 ≤ sp ∧ sp ≤ 1099511627776) (hn : -9223372036854775808 ≤ now ∧ now ≤ 9223372036854775807) (d : Dk) (b : Bool) (w : World) (hv : TLA w av lv l) :
  Calls Tryz.prog 93 #[stv lv sp d b, .int .i64 now] w fun e w' => ∃ v', e = .returned (.tuple #[v', .int .i64 ((bestR l sp now).2)]) ∧ OV w' av v' (bestR l sp now).1 ∧ Below w.heap.size w w' := by
 obtain ⟨a, c, rfl⟩ := hv.form
 have hls := hv.small
 obtain ⟨s, safe, room, fuse, down⟩ := d
 obtain ⟨B1, B2, hb2⟩ := two_sx w (.slice a l.length c) sp ⟨s, safe, room, fuse, down⟩ b
 have HV := Lib.hid hv
 clear hv
 by_cases h0 : l = []
 ·subst h0
  rw [bestR_nil]
  go_enter Tryz.func93, Tryz.ntmps93
  go_wp2_with fail
  refine bodyPost_ret (res_tr2 rfl _ _ ztr rfl _ rfl (Blk.new' (by simp))) rfl ?_
  exact ⟨_, rfl, rfl, Below.allocS (Below.allocS (Below.refl _ _) _) _⟩
 ·have hlp : l.length ≠ 0 := fun e => h0 (List.length_eq_zero_iff.1 e)
  have e0 : ((l.length : Int) == 0) = false := by rw [beq_eq_false_iff_ne]; omega
  have HN := Lib.hid (fun h => bestR_none (sp := sp) (now := now) h0 h)
  have HS := Lib.hid (fun t h => bestR_some (sp := sp) (now := now) (t := t) h0 h)
  have HG : Hid (bestG sp now none l = bestG sp now none (l.drop 0)) := Lib.hid (by rw [List.drop_zero])
  generalize bestR l sp now = R at *
  obtain ⟨W2, hW2⟩ : ∃ W2, W2 = ((w.alloc (.cells (stcs (.slice a l.length c) sp ⟨s, safe, room, fuse, down⟩ b).toArray 76)).alloc (.cells ztr.toArray 27)) := ⟨_, rfl⟩
  rw [← hW2] at B1 B2 hb2
  have HW := Lib.hid hW2
  have hws : w.heap.size + 2 ≤ W2.heap.size := by rw [hW2]; simp
  obtain ⟨m1, m2, m3⟩ := id B1
  have HB1 := Lib.hid B1
  have HB2 := Lib.hid B2
  clear h0 hlp hW2 B1 B2
  go_enter Tryz.func93, Tryz.ntmps93
  go_wp2_with fail
  rw [← HW.out]
  go_loopw [6, 7] (fun s6 s7 wr => ∃ (i : Nat) (bi : Int) (o : Option Tr), i ≤ l.length ∧ s7 = .int .i64 i ∧ s6 = .int .i64 bi ∧ Hid (BestAt l bi o) ∧ Hid (bestG sp now none l = bestG sp now o (l.drop i)) ∧ Below W2.heap.size W2 wr) (fun _ s7 _ => l.length - (intOf s7).toNat)
  case atStart => exact ⟨0, -1, none, by omega, rfl, rfl, Lib.hid (.inl ⟨rfl, rfl⟩), HG, Below.refl _ _⟩
  case round =>
   obtain ⟨i, bi, o, hi, rfl, rfl, HBI, HGI, hbr⟩ := hrel
   clear HG
   have B1r := HB1.out.keep hbr
   have B2r := HB2.out.keep hbr
   have hwr := hb2.trans (hbr.mono (by omega))
   have hsr := hbr.size
   obtain ⟨m1, m2, m3⟩ := id B1r
   have m10 := m1 0
   by_cases hlt : i < l.length
   ·have hbd : 0 ≤ (i : Int) ∧ (i : Int) < (l.length : Int) := by omega
    obtain ⟨t, ht⟩ : ∃ t, l[i]? = some t := ⟨l[i], List.getElem?_eq_getElem hlt⟩
    obtain ⟨g, off, sk, ms, rfl, hg, hR, hE⟩ := HV.out.at i t ht
    obtain ⟨ka, kc, hk, _⟩ := id hE.ss
    obtain ⟨ma, mc, hm, _⟩ := id hE.ms
    simp only at hk hm
    subst hk hm
    have q2 := fun W => rstale_any (some ⟨g, off, none⟩) l.length c sp now hsp hn ⟨s, safe, room, fuse, down⟩ b t ka kc ma mc W
    have HG2 : Hid (bestG sp now none l = bestG sp now (if staleR sp now t = true then o else some t) (l.drop (i + 1))) := Lib.hid (by rw [HGI.out, dropT l i t ht, bestG_cons])
    have HBN : Hid (BestAt l (i : Int) (some t)) := Lib.hid (.inr ⟨i, t, rfl, ht, rfl⟩)
    generalize staleR sp now t = st at *
    clear ht hE HGI
    go_wp2_with fail
    refine wp_held rfl (by kernel_rfl) ?_
    refine wpQ_row row_st (by rfl) (.tmp 2) rfl rfl (vs := stcs (.slice (some ⟨g, off, none⟩) l.length c) sp ⟨s, safe, room, fuse, down⟩ b) (rfl) (fun w' hb2 => B1r.keep hb2) ?_
    try simp only [pna, pnb, pnc, pnd, pne]
    (refine qP ?_ ?_ ?_; rotate_left; focus (intro w; go_simp; try with_reducible rfl))
    try simp only [pna, pnb, pnc, pnd, pne]
    refine wpQ_load (by rfl) (.slice (some ⟨g, off, none⟩) l.length c) (fun w' hb2 => (by have c := (B1r.keep hb2).cell 0; go_simp; try rfl)) ?_
    try simp only [pna, pnb, pnc, pnd, pne]
    (refine qP ?_ ?_ ?_; rotate_left; focus (intro w; go_simp; try with_reducible rfl))
    try simp only [pna, pnb, pnc, pnd, pne]
    refine wpQ_pure (by rfl) (.pointer (some ⟨g, off + i * 13, none⟩)) (fun w => (by go_simp; try rfl)) ?_
    try simp only [pna, pnb, pnc, pnd, pne]
    refine wpQ_load (by rfl) (.agg (tcs t (.slice ka t.head.skips.length kc) (.slice ma t.set.length mc)).toArray) (fun w' hb2 => exec_rowAt row_trust (.tmp 24) rfl rfl rfl (rangeAt_keep hR hg (hwr.trans (hb2.mono hwr.size)))) ?_
    try simp only [pna, pnb, pnc, pnd, pne]
    (refine qP ?_ ?_ ?_; rotate_left; focus (intro w; go_simp; try with_reducible rfl))
    try simp only [pna, pnb, pnc, pnd, pne]
    refine wpQ_call (by rfl) _ _ (.bool st) (fun w' hb2 => (q2 w').mono fun _ _ ⟨he, hb4⟩ => ⟨he, hb2.trans (hb4.mono hb2.size)⟩) (by intro w; go_simp; try rfl) ?_
    try simp only [pna, pnb, pnc, pnd, pne]
    (refine qP ?_ ?_ ?_; rotate_left; focus (intro w; go_simp; try with_reducible rfl))
    try simp only [pna, pnb, pnc, pnd, pne]
    intro w5 hS
    have hb5 := hbr.trans (hS.mono hsr)
    cases st
    ·go_wp2_with fail
     exact ⟨⟨i + 1, (i : Int), some t, by omega, by go_num, rfl, HBN, HG2, hb5⟩, by simp [intOf]; omega⟩
    ·go_wp2_with fail
     exact ⟨⟨i + 1, bi, o, by omega, by go_num, rfl, HBI, HG2, hb5⟩, by simp [intOf]; omega⟩
   ·have hil : i = l.length := by omega
    subst hil
    have hfin := HGI.out
    rw [List.drop_length] at hfin
    rcases HBI.out with ⟨rfl, rfl⟩ | ⟨j, t, rfl, ht, rfl⟩
    ·have HR := Lib.hid (HN.out hfin)
     clear hfin HGI HN HS
     go_wp2_with (first | (refine wpList_rowStore row_trust rfl rfl (.tmp 4) (.tmp 32) rfl rfl rfl (vs := ztr) rfl (by simp [Value.oneCell']) (us := ztr) rfl B2r ?_; intro w6 N6 m6) | fail)
     have hb6 := mod_two hwr m6 (by omega) (by omega)
     refine bodyPost_ret (res_tr2 rfl _ _ ztr rfl _ rfl N6) rfl ?_
     rw [HR.out]
     exact ⟨_, rfl, rfl, hb6⟩
    ·have HR := Lib.hid (HS.out t hfin)
     have hjl : j < l.length := (List.getElem?_eq_some_iff.1 ht).1
     obtain ⟨g, off, sk, ms, rfl, hg, hR, hE⟩ := HV.out.at j t ht
     obtain ⟨ka, kc, hk, _⟩ := id hE.ss
     obtain ⟨ma, mc, hm, _⟩ := id hE.ms
     simp only at hk hm
     subst hk hm
     have hR5 := rangeAt_keep hR hg hwr
     unfold tcs at hR5
     have HE := Lib.hid hE
     have hbd : 0 ≤ (j : Int) ∧ (j : Int) < (l.length : Int) := by omega
     have d1 : decide ((j : Int) < 0) = false := by simp
     clear hfin HGI HN HS ht hE hR
     go_wp2_with (first
      | (refine wpList_rowLoadAt row_trust rfl (.tmp 36) rfl rfl rfl hR5 ?_)
      | (refine wpList_rowStore row_trust rfl rfl (.tmp 4) (.tmp 37) rfl rfl rfl (vs := [.int .i64 t.head.height, .int .i64 t.head.epoch, .int .i64 t.head.view, .bool t.head.last, .string ⟨List.toArray t.head.parent⟩, .string ⟨List.toArray t.head.state⟩, .string ⟨List.toArray t.head.receipts⟩, .string ⟨List.toArray t.head.txs⟩, .string ⟨List.toArray t.head.members⟩, .string ⟨List.toArray t.head.next⟩, .slice ka t.head.skips.length kc, .slice ma t.set.length mc, .int .i64 t.at_]) rfl (by simp [Value.oneCell']) (us := ztr) rfl B2r ?_; intro w6 N6 m6))
     have hb6 := mod_two hwr m6 (by omega) (by omega)
     have hE6 := HE.out.keep hb6
     refine bodyPost_ret (res_tr2 rfl _ _ _ rfl _ rfl N6) rfl ?_
     rw [HR.out]
     exact ⟨_, rfl, ⟨_, _, rfl, hE6⟩, hb6⟩
theorem abR_low {sp now h c : Int} {t : Tr} {r : List Tr} (hh : t.head.height < h) : abR sp now h c (t :: r) = abR sp now h c r := if_pos hh
theorem abR_high {sp now h c : Int} {t : Tr} {r : List Tr} (hh : ¬ t.head.height < h) : abR sp now h c (t :: r) = if staleR sp now t = true then abR sp now h 330 r else (some t, 0) := if_neg hh
theorem rabove_any (av : List Nat) (lv : Value) (l : List Tr) (sp h now : Int) (hl : l.length ≤ 1000) (hsp : 0 ≤ sp ∧ sp ≤ 1099511627776) (hn : -9223372036854775808 ≤ now ∧ now ≤ 9223372036854775807) (d : Dk) (b : Bool) (w : World) (hv : TLA w av lv l) :
  Calls Tryz.prog 94 #[stv lv sp d b, .int .i64 h, .int .i64 now] w fun e w' => ∃ v', e = .returned (.tuple #[v', .int .i64 ((abR sp now h 5 l).2)]) ∧ OV w' av v' (abR sp now h 5 l).1 ∧ Below w.heap.size w w' := by
 obtain ⟨a, c, rfl⟩ := hv.form
 have hls := hv.small
 obtain ⟨s, safe, room, fuse, down⟩ := d
 obtain ⟨B1, B2, hb2⟩ := two_sx w (.slice a l.length c) sp ⟨s, safe, room, fuse, down⟩ b
 have HV := Lib.hid hv
 have HG : Hid (abR sp now h 5 l = abR sp now h 5 (l.drop 0)) := Lib.hid (by rw [List.drop_zero])
 generalize abR sp now h 5 l = R at *
 obtain ⟨W2, hW2⟩ : ∃ W2, W2 = ((w.alloc (.cells (stcs (.slice a l.length c) sp ⟨s, safe, room, fuse, down⟩ b).toArray 76)).alloc (.cells ztr.toArray 27)) := ⟨_, rfl⟩
 rw [← hW2] at B1 B2 hb2
 have HW := Lib.hid hW2
 have hws : w.heap.size + 2 ≤ W2.heap.size := by rw [hW2]; simp
 have HB1 := Lib.hid B1
 have HB2 := Lib.hid B2
 clear hW2 B1 B2 hv
 go_enter Tryz.func94, Tryz.ntmps94
 go_wp2_with fail
 rw [← HW.out]
 go_loopw [8, 9] (fun s8 s9 wr => ∃ (i : Nat) (cc : Int), i ≤ l.length ∧ s9 = .int .i64 i ∧ s8 = .int .i64 cc ∧ Hid (R = abR sp now h cc (l.drop i)) ∧ Below W2.heap.size W2 wr) (fun _ s9 _ => l.length - (intOf s9).toNat)
 case atStart => exact ⟨0, 5, by omega, rfl, rfl, HG, Below.refl _ _⟩
 case round =>
  obtain ⟨i, cc, hi, rfl, rfl, HGI, hbr⟩ := hrel
  clear HG
  have B1r := HB1.out.keep hbr
  have B2r := HB2.out.keep hbr
  have hwr := hb2.trans (hbr.mono (by omega))
  have hsr := hbr.size
  obtain ⟨m1, m2, m3⟩ := id B1r
  have m10 := m1 0
  by_cases hlt : i < l.length
  ·have hbd : 0 ≤ (i : Int) ∧ (i : Int) < (l.length : Int) := by omega
   obtain ⟨t, ht⟩ : ∃ t, l[i]? = some t := ⟨l[i], List.getElem?_eq_getElem hlt⟩
   obtain ⟨g, off, sk, ms, rfl, hg, hR, hE⟩ := HV.out.at i t ht
   have hR5 := rangeAt_keep hR hg hwr
   have c0 := hR5 0 (.int .i64 t.head.height) rfl
   rw [Nat.add_zero] at c0
   have HDR := Lib.hid (dropT l i t ht)
   by_cases hlo : t.head.height < h
   ·have d1 : decide (t.head.height < h) = true := by simpa using hlo
    have HG2 : Hid (R = abR sp now h cc (l.drop (i + 1))) := Lib.hid (by rw [HGI.out, HDR.out, abR_low hlo])
    clear ht hE HGI hlo hR5
    go_wp2_with fail
    exact ⟨⟨i + 1, cc, by omega, by go_num, rfl, HG2, hbr⟩, by simp [intOf]; omega⟩
   ·have d1 : decide (t.head.height < h) = false := by simpa using hlo
    obtain ⟨ka, kc, hk, _⟩ := id hE.ss
    obtain ⟨ma, mc, hm, _⟩ := id hE.ms
    simp only at hk hm
    subst hk hm
    have q2 := fun W => rstale_any (some ⟨g, off, none⟩) l.length c sp now hsp hn ⟨s, safe, room, fuse, down⟩ b t ka kc ma mc W
    have HG2 : Hid (R = if staleR sp now t = true then abR sp now h 330 (l.drop (i + 1)) else (some t, 0)) := Lib.hid (by rw [HGI.out, HDR.out, abR_high hlo])
    generalize staleR sp now t = st at *
    have HE := Lib.hid hE
    clear ht hE HGI hlo hR5 HDR
    go_wp2_with fail
    refine wp_held rfl (by kernel_rfl) ?_
    refine wpQ_row row_st (by rfl) (.tmp 3) rfl rfl (vs := stcs (.slice (some ⟨g, off, none⟩) l.length c) sp ⟨s, safe, room, fuse, down⟩ b) (rfl) (fun w' hb2 => B1r.keep hb2) ?_
    try simp only [pna, pnb, pnc, pnd, pne]
    (refine qP ?_ ?_ ?_; rotate_left; focus (intro w; go_simp; try with_reducible rfl))
    try simp only [pna, pnb, pnc, pnd, pne]
    refine wpQ_load (by rfl) (.slice (some ⟨g, off, none⟩) l.length c) (fun w' hb2 => (by have c := (B1r.keep hb2).cell 0; go_simp; try rfl)) ?_
    try simp only [pna, pnb, pnc, pnd, pne]
    (refine qP ?_ ?_ ?_; rotate_left; focus (intro w; go_simp; try with_reducible rfl))
    try simp only [pna, pnb, pnc, pnd, pne]
    refine wpQ_pure (by rfl) (.pointer (some ⟨g, off + i * 13, none⟩)) (fun w => (by go_simp; try rfl)) ?_
    try simp only [pna, pnb, pnc, pnd, pne]
    refine wpQ_load (by rfl) (.agg (tcs t (.slice ka t.head.skips.length kc) (.slice ma t.set.length mc)).toArray) (fun w' hb2 => exec_rowAt row_trust (.tmp 30) rfl rfl rfl (rangeAt_keep hR hg (hwr.trans (hb2.mono hwr.size)))) ?_
    try simp only [pna, pnb, pnc, pnd, pne]
    (refine qP ?_ ?_ ?_; rotate_left; focus (intro w; go_simp; try with_reducible rfl))
    try simp only [pna, pnb, pnc, pnd, pne]
    refine wpQ_call (by rfl) _ _ (.bool st) (fun w' hb2 => (q2 w').mono fun _ _ ⟨he, hb4⟩ => ⟨he, hb2.trans (hb4.mono hb2.size)⟩) (by intro w; go_simp; try rfl) ?_
    try simp only [pna, pnb, pnc, pnd, pne]
    (refine qP ?_ ?_ ?_; rotate_left; focus (intro w; go_simp; try with_reducible rfl))
    try simp only [pna, pnb, pnc, pnd, pne]
    intro w5 hS
    have hb5 := hbr.trans (hS.mono hsr)
    have hw5 := hwr.trans (hS.mono hwr.size)
    have hs5 := hS.size
    have B15 := B1r.keep hS
    have B25 := B2r.keep hS
    clear m1 m2 m3 m10
    obtain ⟨m1, m2, m3⟩ := id B15
    have m10 := m1 0
    have hR6 := rangeAt_keep hR hg hw5
    unfold tcs at hR6
    clear c0 hR B1r B2r
    cases st
    ·have HR : Hid (R = (some t, 0)) := Lib.hid (by rw [HG2.out]; rfl)
     clear HG2 q2
     go_wp2_with (first
      | (refine wpList_rowLoadAt row_trust rfl (.tmp 38) rfl rfl rfl hR6 ?_)
      | (refine wpList_rowStore row_trust rfl rfl (.tmp 6) (.tmp 39) rfl rfl rfl (vs := [.int .i64 t.head.height, .int .i64 t.head.epoch, .int .i64 t.head.view, .bool t.head.last, .string ⟨List.toArray t.head.parent⟩, .string ⟨List.toArray t.head.state⟩, .string ⟨List.toArray t.head.receipts⟩, .string ⟨List.toArray t.head.txs⟩, .string ⟨List.toArray t.head.members⟩, .string ⟨List.toArray t.head.next⟩, .slice ka t.head.skips.length kc, .slice ma t.set.length mc, .int .i64 t.at_]) rfl (by simp [Value.oneCell']) (us := ztr) rfl B25 ?_; intro w6 N6 m6))
     have hb6 := mod_two hw5 m6 (by omega) (by omega)
     have hE6 := HE.out.keep hb6
     refine bodyPost_ret (res_tr2 rfl _ _ _ rfl _ rfl N6) rfl ?_
     rw [HR.out]
     exact ⟨_, rfl, ⟨_, _, rfl, hE6⟩, hb6⟩
    ·have HG3 : Hid (R = abR sp now h 330 (l.drop (i + 1))) := Lib.hid (by rw [HG2.out]; rfl)
     clear HG2
     go_wp2_with fail
     exact ⟨⟨i + 1, 330, by omega, by go_num, rfl, HG3, hb5⟩, by simp [intOf]; omega⟩
  ·have hil : i = l.length := by omega
   subst hil
   have HR : Hid (R = (none, cc)) := Lib.hid (by rw [HGI.out, List.drop_length]; rfl)
   clear HGI
   go_wp2_with (first | (refine wpList_rowStore row_trust rfl rfl (.tmp 6) (.tmp 40) rfl rfl rfl (vs := ztr) rfl (by simp [Value.oneCell']) (us := ztr) rfl B2r ?_; intro w6 N6 m6) | fail)
   have hb6 := mod_two hwr m6 (by omega) (by omega)
   refine bodyPost_ret (res_tr2 rfl _ _ ztr rfl _ rfl N6) rfl ?_
   rw [HR.out]
   exact ⟨_, rfl, rfl, hb6⟩
end Go.Proofs.YthgjdaomcpinaaaGreatDoor
