/- THold, TChange. -/
import Derived.Test.YthgjdaomcpinaaaGreatDoorMp43
set_option linter.unnecessarySimpa false
set_option linter.unusedSimpArgs false
set_option linter.unusedVariables false
set_option maxRecDepth 100000
set_option maxHeartbeats 32000000
namespace Go.Proofs.YthgjdaomcpinaaaGreatDoor
open Go.RowKit Go.WideMaps Go.Maps Go.Sort Go.Shelf Pl
theorem Im.addS {l : List Tr} {T : List (Int × Tr)} (h : Im l T) (hn : (hts T).Nodup) (hf : ∀ u ∈ l, fineT u = true) (d : Dk) (b : Bool) (ts : List Tr) : ∃ l', raddR d b l ts = (l', (addS d b T ts).1, (addS d b T ts).2.2.2, (addS d b T ts).2.2.1) ∧ Im l' (addS d b T ts).2.1 := by
 cases ha : ts.all fineT
 ·exact ⟨l, by rw [raddR_bad ha, addS_bad ha], by rw [addS_bad ha]; exact h⟩
 ·rcases h.adds ts hn hf ha with ⟨h1, h2⟩ | ⟨l', T', h1, h2, h3, _⟩
  ·exact ⟨l, by rw [raddR_no ha h1, addS_there ha h2], by rw [addS_there ha h2]; exact h⟩
  ·by_cases h0 : ts = []
   ·subst h0
    have e := addS_none (d := d) (b := b) h2
    injection h1 with h1
    exact ⟨l, by rw [raddR_yes ha (l' := l) rfl, e]; rfl, by rw [e, h1]; exact h3⟩
   ·have hb : batchT ts ≠ [] := fun e => h0 (List.map_eq_nil_iff.1 e)
    have hr : raddR d b l ts = (if (wrS d b (batchT ts)).2.2 = 0 then l' else l, (wrS d b (batchT ts)).1, (wrS d b (batchT ts)).2.1, (wrS d b (batchT ts)).2.2) := by
     rw [raddR_yes ha h1]
     exact if_neg hb
    by_cases hw : (wrS d b (batchT ts)).2.2 = 0
    ·have e := addS_yes ha h2 h0 hw
     exact ⟨l', by rw [hr, e, if_pos hw, hw], by rw [e]; exact h3⟩
    ·have e := addS_no ha h2 h0 hw
     exact ⟨l, by rw [hr, e, if_neg hw], by rw [e]; exact h⟩
theorem Im.dropS {l : List Tr} {T : List (Int × Tr)} (h : Im l T) (d : Dk) (b : Bool) (hs : List Int) : ∃ l', rdropR d b l hs = (l', (dropS d b T hs).1, (dropS d b T hs).2.2.2, (dropS d b T hs).2.2.1) ∧ Im l' (dropS d b T hs).2.1 := by
 rcases h.drops hs with ⟨h1, h2⟩ | ⟨l', T', h1, h2, h3⟩
 ·have e := dropS_there (d := d) (b := b) h2
  exact ⟨l, by rw [rdropR_no h1, e], by rw [e]; exact h⟩
 ·by_cases h0 : hs = []
  ·subst h0
   have e := dropS_none (d := d) (b := b) h2
   injection h1 with h1
   exact ⟨l, by rw [rdropR_yes (l' := l) rfl, e]; rfl, by rw [e, h1]; exact h3⟩
  ·have hb : goesT hs ≠ [] := fun e => h0 (List.map_eq_nil_iff.1 e)
   have hr : rdropR d b l hs = (if (wrS d b (goesT hs)).2.2 = 0 then l' else l, (wrS d b (goesT hs)).1, (wrS d b (goesT hs)).2.1, (wrS d b (goesT hs)).2.2) := by
    rw [rdropR_yes h1]
    exact if_neg hb
   by_cases hw : (wrS d b (goesT hs)).2.2 = 0
   ·have e := dropS_yes h2 h0 hw
    exact ⟨l', by rw [hr, e, if_pos hw, hw], by rw [e]; exact h3⟩
   ·have e := dropS_no h2 h0 hw
    exact ⟨l, by rw [hr, e, if_neg hw], by rw [e]; exact h⟩
structure GoodT (T : List (Int × Tr)) : Prop where
 nd : (hts T).Nodup
 el : ∀ e ∈ T, fineT e.2 = true ∧ e.2.head.height = e.1
theorem GoodT.nil : GoodT [] := ⟨List.Pairwise.nil, fun e he => by cases he⟩
theorem GoodT.put {T : List (Int × Tr)} (h : GoodT T) {t : Tr} (hf : fineT t = true) : GoodT (putK T t.head.height t) := by
 refine ⟨put_nodup h.nd _ _, fun e he => ?_⟩
 unfold putK at he
 split at he
 ·obtain ⟨x, hx, rfl⟩ := List.mem_map.1 he
  split
  ·exact ⟨hf, rfl⟩
  ·exact h.el x hx
 ·rcases List.mem_append.1 he with he | he
  ·exact h.el e he
  ·rw [List.mem_singleton] at he
   subst he
   exact ⟨hf, rfl⟩
theorem GoodT.del {T : List (Int × Tr)} (h : GoodT T) (k : Int) : GoodT (delK T k) :=
 ⟨List.Nodup.sublist (List.Sublist.map _ List.filter_sublist) h.nd, fun e he => h.el e (List.mem_filter.1 he).1⟩
theorem Chg.good {T T1 : List (Int × Tr)} {s : Bs} (h : Chg T s T1) (g : GoodT T) : GoodT T1 := by
 cases h with
 | come t hf hh => exact g.put hf
 | goes k hk h => exact g.del _
theorem Chgs.good {T T1 : List (Int × Tr)} {b : List Bs} (h : Chgs T b T1) : GoodT T → GoodT T1 := by
 induction h with
 | nil T => exact id
 | cons h _ ih => exact fun g => ih (h.good g)
theorem Chgs.len {T T1 : List (Int × Tr)} {b : List Bs} (h : Chgs T b T1) : T1.length ≤ T.length + b.length := by
 induction h with
 | nil T => simp
 | cons h _ ih => have := h.len; simp only [List.length_cons]; omega
theorem GoodT.sm {T : List (Int × Tr)} (h : GoodT T) : TrSm T := by
 intro e he
 obtain ⟨h1, h2⟩ := h.el e he
 have := fineT_small h1
 omega
theorem GoodT.key {T : List (Int × Tr)} (h : GoodT T) : ∀ k t, lookK T k = some t → t.head.height = k := fun k t hk => (h.el _ (look_mem hk)).2
theorem GoodT.at0 {T : List (Int × Tr)} (h : GoodT T) : ∀ k t, lookK T k = some t → 0 ≤ t.at_ := fun k t hk => (fineT_small (h.el _ (look_mem hk)).1).2.2.2
theorem GoodT.keyB {T : List (Int × Tr)} (h : GoodT T) : ∀ k ∈ hts T, 0 ≤ k ∧ k ≤ 1048576 := by
 intro k hk
 obtain ⟨t, ht⟩ := hts_mem hk
 obtain ⟨h1, h2⟩ := h.el _ ht
 have h3 := fineT_small h1
 simp only at h2 h3
 omega
theorem Im.fine {l : List Tr} {T : List (Int × Tr)} (h : Im l T) (g : GoodT T) : ∀ u ∈ l, fineT u = true := fun u hu => (g.el _ (look_mem ((h.mem u).1 hu))).1
theorem Im.len {l : List Tr} {T : List (Int × Tr)} (h : Im l T) (g : GoodT T) : l.length = T.length := by
 rw [h.img g.nd]
 unfold imgT
 rw [imgL_len, sortZ_len]
 unfold hts
 rw [List.length_map]
theorem may_some (l : List Bs) (h : ∀ x ∈ l, x.length ≤ 2001) (hl : l.length ≤ 20) : mayR l = true := by
 have h1 := listB_le l 2001 h
 have h2 := num_len' l.length
 have h4 : (Pl.encS l).length = (num l.length).length + (listB l).length := by unfold Pl.encS; rw [List.length_append]
 have h5 : l.length * (2001 + 9) ≤ 20 * (2001 + 9) := Nat.mul_le_mul_right _ hl
 unfold mayR
 simp only [Bool.and_eq_true, decide_eq_true_eq, List.all_eq_true]
 exact ⟨⟨by omega, fun x hx => by have := h x hx; omega⟩, by omega⟩
theorem batch_may {l : List Tr} (hf : l.all fineT = true) (hl : l.length ≤ 20) : mayR (batchT l) = true := by
 refine may_some _ (fun x hx => ?_) (by rw [batch_len]; exact hl)
 unfold batchT at hx
 obtain ⟨t, ht, rfl⟩ := List.mem_map.1 hx
 have := writT_len (List.all_eq_true.1 hf t ht)
 simp only [List.length_cons]
 omega
structure Hold (d : Dk) (br : Bool) (T : List (Int × Tr)) (n : Nat) : Prop where
 room : d.room = 5000
 fuse : -1 ≤ d.fuse ∧ d.fuse ≤ 9223372036854775807
 len : d.s.length ≤ 5000
 jr : ∃ (B : List (List Bs)) (b : List Bs) (T1 : List (Int × Tr)), (∀ x ∈ B, mayR x = true ∧ x.length ≤ 1000) ∧ Chgs [] B.flatten T ∧ B.flatten.length + T.length ≤ 12 * n ∧ B.length ≤ n ∧ mayR b = true ∧ (b.length ≤ 1000 ∧ B.flatten.length + b.length + T1.length ≤ 12 * n) ∧ Chgs T b T1 ∧
  d.safe = ((recsP B).length : Int) ∧ (d.s = recsP B ∨ (br = true ∧ d.s = recsP B ++ recP b)) ∧ (br = true → d.down = true)
theorem Hold.more {d : Dk} {br : Bool} {T : List (Int × Tr)} {n : Nat} (h : Hold d br T n) : Hold d br T (n + 1) := by
 obtain ⟨h1, h2, h3, B, b, T1, j1, j2, j3, j4, j5⟩ := h
 exact ⟨h1, h2, h3, B, b, T1, j1, j2, by omega, by omega, j5.1, ⟨j5.2.1.1, by have := j5.2.1.2; omega⟩, j5.2.2⟩
theorem Hold.good {d : Dk} {br : Bool} {T : List (Int × Tr)} {n : Nat} (h : Hold d br T n) : GoodT T := by
 obtain ⟨_, _, _, B, b, T1, j1, j2, _⟩ := h
 exact j2.good GoodT.nil
theorem Hold.tlen {d : Dk} {br : Bool} {T : List (Int × Tr)} {n : Nat} (h : Hold d br T n) : T.length ≤ 12 * n := by
 obtain ⟨_, _, _, B, b, T1, j1, j2, j3, _⟩ := h
 omega
theorem Hold.safe {d : Dk} {br : Bool} {T : List (Int × Tr)} {n : Nat} (h : Hold d br T n) : 0 ≤ d.safe ∧ d.safe ≤ (d.s.length : Int) := by
 obtain ⟨_, _, _, B, b, T1, j1, j2, j3, j4, j5, j6, j7, j8, j9, _⟩ := h
 rcases j9 with e | ⟨_, e⟩ <;> rw [e] <;> (try rw [List.length_append]) <;> omega
theorem Hold.new : Hold ⟨[], 0, 5000, -1, false⟩ false [] 0 :=
 ⟨rfl, by simp, by simp, [], [], [], fun x hx => (by cases hx), .nil _, by simp, by simp, mayR_nil, ⟨by simp, by simp⟩, .nil _, rfl, .inl rfl, fun h => by cases h⟩
theorem Hold.fuse' {d : Dk} {br : Bool} {T : List (Int × Tr)} {n : Nat} (h : Hold d br T n) (f : Int) (hf : f ≤ 9223372036854775807) : Hold (fuseD d f) br T n := by
 obtain ⟨h1, h2, h3, hj⟩ := h
 exact ⟨h1, by unfold fuseD; simp only; omega, h3, hj⟩
theorem burnt_two (d : Dk) : ((burntD d).2 = 0 ∧ (burntD d).1.s = d.s ∧ (burntD d).1.safe = d.safe ∧ (burntD d).1.room = d.room ∧ (burntD d).1.down = d.down ∨ (burntD d).2 = 311 ∧ (burntD d).1.s = d.s ∧ (burntD d).1.safe = d.safe ∧ (burntD d).1.room = d.room ∧ (burntD d).1.down = true) ∧ ((-1 ≤ d.fuse ∧ d.fuse ≤ 9223372036854775807) → -1 ≤ (burntD d).1.fuse ∧ (burntD d).1.fuse ≤ 9223372036854775807) := by
 unfold burntD
 split
 ·exact ⟨.inr ⟨rfl, rfl, rfl, rfl, rfl⟩, fun h => h⟩
 ·split
  ·exact ⟨.inl ⟨rfl, rfl, rfl, rfl, rfl⟩, fun h => by simp only; omega⟩
  ·exact ⟨.inl ⟨rfl, rfl, rfl, rfl, rfl⟩, fun h => h⟩
theorem Hold.write {d : Dk} {br : Bool} {T T' : List (Int × Tr)} {n : Nat} (h : Hold d br T n) {bt : List Bs} (hm : mayR bt = true) (hl : bt.length ≤ 1000) (hc : Chgs T bt T') (hcn : bt.length + T'.length ≤ T.length + 12) :
  ((wrS d br bt).2.2 = 0 → Hold (wrS d br bt).1 (wrS d br bt).2.1 T' (n + 1)) ∧ ((wrS d br bt).2.2 ≠ 0 → Hold (wrS d br bt).1 (wrS d br bt).2.1 T (n + 1)) := by
 cases br
 ·have hw : wrS d false bt = ((writeD d bt).1, tornD (writeD d bt).2, (writeD d bt).2) := rfl
  rw [hw]
  simp only
  have hmo := h.more
  obtain ⟨h1, h2, h3, B, b, T1, j1, j2, j3, j4, j5, j6, j7, j8, j9, j10⟩ := h
  have hs : d.s = recsP B := by
   rcases j9 with e | ⟨e, _⟩
   ·exact e
   ·cases e
  unfold writeD
  cases hd : d.down
  ·by_cases hsp : d.room - (d.s.length : Int) < ((recP bt).length : Int)
   ·have e : appD d (recP bt) = (d, 310) := by unfold appD; rw [hd, if_neg (by decide), if_pos hsp]
    rw [e, if_neg (by simp)]
    exact ⟨fun h => absurd h (by simp), fun _ => by rw [show tornD 310 = false from by decide]; exact hmo⟩
   ·obtain ⟨hb2, hbf⟩ := burnt_two d
    have hbf := hbf h2
    rcases hb2 with ⟨hb0, k1, k2, k3, k4⟩ | ⟨hb0, k1, k2, k3, k4⟩
    ·have e : appD d (recP bt) = (⟨d.s ++ recP bt, d.safe, d.room, (burntD d).1.fuse, d.down⟩, 0) := by unfold appD; rw [hd, if_neg (by decide), if_neg hsp, if_pos hb0]
     rw [e, if_pos rfl]
     generalize (burntD d).1.fuse = fu at *
     have hlen : (d.s ++ recP bt).length ≤ 5000 := by rw [List.length_append]; omega
     obtain ⟨hb3, hbf3⟩ := burnt_two ⟨d.s ++ recP bt, d.safe, d.room, fu, d.down⟩
     have hbf3 := hbf3 hbf
     have hfl : (B ++ [bt]).flatten.length + T'.length ≤ 12 * (n + 1) := by rw [List.flatten_append]; simp only [List.flatten_cons, List.flatten_nil, List.append_nil, List.length_append]; omega
     have hch : Chgs [] (B ++ [bt]).flatten T' := by rw [List.flatten_append]; simpa using j2.app hc
     have hmy : ∀ x ∈ B ++ [bt], mayR x = true ∧ x.length ≤ 1000 := by
      intro x hx
      rcases List.mem_append.1 hx with hx | hx
      ·exact j1 x hx
      ·rw [List.mem_singleton] at hx; rw [hx]; exact ⟨hm, by omega⟩
     rcases hb3 with ⟨g0, g1, g2, g3, g4⟩ | ⟨g0, g1, g2, g3, g4⟩
     ·have e2 : syncD ⟨d.s ++ recP bt, d.safe, d.room, fu, d.down⟩ = (⟨d.s ++ recP bt, ((d.s ++ recP bt).length : Int), d.room, (burntD ⟨d.s ++ recP bt, d.safe, d.room, fu, d.down⟩).1.fuse, d.down⟩, 0) := by
       unfold syncD
       simp only
       rw [hd] at g0 ⊢
       rw [if_neg (by decide), if_pos g0]
      rw [e2]
      simp only
      refine ⟨fun _ => ?_, fun h => absurd rfl h⟩
      rw [show tornD 0 = false from by decide]
      exact ⟨h1, hbf3, hlen, B ++ [bt], [], T', hmy, hch, hfl, by simp; omega, mayR_nil, ⟨by simp, by rw [List.length_nil]; omega⟩, .nil _, by rw [recsP_snoc, hs], .inl (by rw [recsP_snoc, hs]), fun h => by cases h⟩
     ·have e2 : syncD ⟨d.s ++ recP bt, d.safe, d.room, fu, d.down⟩ = burntD ⟨d.s ++ recP bt, d.safe, d.room, fu, d.down⟩ := by
       unfold syncD
       simp only
       rw [hd] at g0 ⊢
       rw [if_neg (by decide), if_neg (by rw [g0]; decide)]
      rw [e2, g0]
      refine ⟨fun h => absurd h (by simp), fun _ => ?_⟩
      rw [show tornD 311 = true from by decide]
      exact ⟨by rw [g3]; exact h1, hbf3, by rw [g1]; exact hlen, B, bt, T', j1, j2, by omega, by omega, hm, ⟨hl, by omega⟩, hc, by rw [g2]; exact j8, .inr ⟨rfl, by rw [g1, hs]⟩, fun _ => g4⟩
    ·have e : appD d (recP bt) = burntD d := by unfold appD; rw [hd, if_neg (by decide), if_neg hsp, if_neg (by rw [hb0]; decide)]
     rw [e, if_neg (by rw [hb0]; decide), hb0]
     refine ⟨fun h => absurd h (by simp), fun _ => ?_⟩
     rw [show tornD 311 = true from by decide]
     exact ⟨by rw [k3]; exact h1, hbf, by rw [k1]; exact h3, B, bt, T', j1, j2, by omega, by omega, hm, ⟨hl, by omega⟩, hc, by rw [k2]; exact j8, .inl (by rw [k1]; exact hs), fun _ => k4⟩
  ·have e : appD d (recP bt) = (d, 311) := by unfold appD; rw [hd, if_pos rfl]
   rw [e, if_neg (by simp)]
   refine ⟨fun h => absurd h (by simp), fun _ => ?_⟩
   rw [show tornD 311 = true from by decide]
   exact ⟨h1, h2, h3, B, bt, T', j1, j2, by omega, by omega, hm, ⟨hl, by omega⟩, hc, j8, .inl hs, fun _ => hd⟩
 ·have hw : wrS d true bt = (d, true, 320) := rfl
  rw [hw]
  exact ⟨fun h => absurd h (by simp), fun _ => h.more⟩
theorem drops_len : ∀ (hs : List Int) (T T' : List (Int × Tr)), (hts T).Nodup → dropsT hs T = some T' → hs.length + T'.length = T.length
 | [], T, T', _, h => by
  injection h with h
  subst h
  simp
 | k :: r, T, T', hn, h => by
  unfold dropsT at h
  split at h
  ·rename_i hin
   have h1 := delK_len hn hin
   have h2 := drops_len r (delK T k) T' (List.Nodup.sublist (List.Sublist.map _ List.filter_sublist) hn) h
   rw [List.length_cons]
   omega
  ·cases h
theorem Hold.adds {d : Dk} {br : Bool} {T : List (Int × Tr)} {n : Nat} (h : Hold d br T n) (ts : List Tr) (hl : ts.length ≤ 6) : Hold (addS d br T ts).1 (addS d br T ts).2.2.2 (addS d br T ts).2.1 (n + 1) := by
 cases ha : ts.all fineT
 ·rw [addS_bad ha]; exact h.more
 ·cases hT : addsT ts T with
  | none => rw [addS_there ha hT]; exact h.more
  | some T' =>
   by_cases h0 : ts = []
   ·subst h0
    rw [addS_none hT]
    injection hT with hT
    subst hT
    exact h.more
   ·obtain ⟨w1, w2⟩ := h.write (batch_may ha (by omega)) (by rw [batch_len]; omega) (chgs_adds ts T T' ha hT) (by have := (chgs_adds ts T T' ha hT).len; rw [batch_len] at this ⊢; omega)
    by_cases hw : (wrS d br (batchT ts)).2.2 = 0
    ·rw [addS_yes ha hT h0 hw]; exact w1 hw
    ·rw [addS_no ha hT h0 hw]; exact w2 hw
theorem Hold.drops {d : Dk} {br : Bool} {T : List (Int × Tr)} {n : Nat} (h : Hold d br T n) (hs : List Int) (hl : hs.length ≤ 1000) : Hold (dropS d br T hs).1 (dropS d br T hs).2.2.2 (dropS d br T hs).2.1 (n + 1) := by
 cases hT : dropsT hs T with
 | none => rw [dropS_there hT]; exact h.more
 | some T' =>
  by_cases h0 : hs = []
  ·subst h0
   rw [dropS_none hT]
   injection hT with hT
   subst hT
   exact h.more
  ·have hk := h.good.keyB
   obtain ⟨w1, w2⟩ := h.write (goes_may hs (by omega)) (by rw [goes_len]; exact hl) (chgs_drops hs T T' (fun k hk2 => by have := hk k hk2; omega) hT) (by have := drops_len hs T T' h.good.nd hT; rw [goes_len]; omega)
   by_cases hw : (wrS d br (goesT hs)).2.2 = 0
   ·rw [dropS_yes hT h0 hw]; exact w1 hw
   ·rw [dropS_no hT h0 hw]; exact w2 hw
structure Scn (d : Dk) (B : List (List Bs)) (T : List (Int × Tr)) (n : Nat) : Prop where
 sc : ∃ tail, d.s = recsP B ++ tail ∧ CutT tail
 may : ∀ x ∈ B, mayR x = true ∧ x.length ≤ 1000
 ch : Chgs [] B.flatten T
 cnt : B.flatten.length ≤ 12 * n
 bl : B.length ≤ n
theorem Hold.again {d : Dk} {br : Bool} {T : List (Int × Tr)} {n : Nat} (h : Hold d br T n) :
  ∃ B' T', Scn d B' T' (n + 1) ∧ ((openD d (recsP B').length).2 = 0 → Hold (openD d (recsP B').length).1 false T' (n + 1)) ∧ ((openD d (recsP B').length).2 ≠ 0 → Hold (openD d (recsP B').length).1 br T (n + 1)) := by
 have hmo := h.more
 obtain ⟨h1, h2, h3, B, b, T1, j1, j2, j3, j4, j5, j6, j7, j8, j9, j10⟩ := h
 cases hd : d.down
 ·have hbr : br = false := by
   cases br
   ·rfl
   ·rw [j10 rfl] at hd; cases hd
  subst hbr
  have hs : d.s = recsP B := by
   rcases j9 with e | ⟨e, _⟩
   ·exact e
   ·cases e
  refine ⟨B, T, ⟨⟨[], by rw [List.append_nil]; exact hs, .inl rfl⟩, j1, j2, by omega, by omega⟩, ?_⟩
  have eo : openD d (recsP B).length = syncD d := by unfold openD; rw [if_neg (by rw [hs]; omega)]
  rw [eo]
  obtain ⟨hb2, hbf⟩ := burnt_two d
  have hbf := hbf h2
  rcases hb2 with ⟨hb0, k1, k2, k3, k4⟩ | ⟨hb0, k1, k2, k3, k4⟩
  ·have e : syncD d = (⟨d.s, d.s.length, d.room, (burntD d).1.fuse, d.down⟩, 0) := by unfold syncD; rw [hd, if_neg (by decide), if_pos hb0]
   rw [e]
   exact ⟨fun _ => ⟨h1, hbf, h3, B, b, T1, j1, j2, by omega, by omega, j5, ⟨j6.1, by omega⟩, j7, by simp only; rw [hs], .inl hs, fun h => by cases h⟩, fun h => absurd rfl h⟩
  ·have e : syncD d = burntD d := by unfold syncD; rw [hd, if_neg (by decide), if_neg (by rw [hb0]; decide)]
   rw [e, hb0]
   exact ⟨fun h => absurd h (by simp), fun _ => ⟨by rw [k3]; exact h1, hbf, by rw [k1]; exact h3, B, b, T1, j1, j2, by omega, by omega, j5, ⟨j6.1, by omega⟩, j7, by rw [k2]; exact j8, .inl (by rw [k1]; exact hs), fun h => by cases h⟩⟩
 ·have key : ∀ n, openD d n = (if n < d.s.length then (d, 311) else (d, 311)) := by
   intro n
   have e1 : syncD d = (d, 311) := by unfold syncD; rw [hd, if_pos rfl]
   have e2 : cutD d n = (d, 311) := by unfold cutD; rw [hd, if_pos rfl]
   unfold openD
   rw [e1, e2]
   rfl
  have key2 : ∀ n, openD d n = (d, 311) := fun n => by rw [key n]; split <;> rfl
  rcases j9 with e | ⟨_, e⟩
  ·exact ⟨B, T, ⟨⟨[], by rw [List.append_nil]; exact e, .inl rfl⟩, j1, j2, by omega, by omega⟩, by rw [key2]; exact ⟨fun h => absurd h (by simp), fun _ => hmo⟩⟩
  ·refine ⟨B ++ [b], T1, ⟨⟨[], by rw [List.append_nil, recsP_snoc]; exact e, .inl rfl⟩, ?_, by rw [List.flatten_append]; simpa using j2.app j7, by rw [List.flatten_append]; simp only [List.flatten_cons, List.flatten_nil, List.append_nil, List.length_append]; omega, by simp; omega⟩, by rw [key2]; exact ⟨fun h => absurd h (by simp), fun _ => hmo⟩⟩
   intro x hx
   rcases List.mem_append.1 hx with hx | hx
   ·exact j1 x hx
   ·rw [List.mem_singleton] at hx; rw [hx]; exact ⟨j5, j6.1⟩
theorem open_up2 {d : Dk} {B : List (List Bs)} {tail : Bs} (hs : d.s = recsP B ++ tail) (hd : d.down = false) (hf : d.fuse = -1) (hsf : d.safe = (d.s.length : Int)) : openD d (recsP B).length = (⟨recsP B, ((recsP B).length : Int), d.room, -1, false⟩, 0) := by
 have hb : burntD d = (d, 0) := burnt_neg (by omega)
 have hle : (recsP B).length ≤ d.s.length := by rw [hs, List.length_append]; omega
 have ht : d.s.take (recsP B).length = recsP B := by rw [hs, List.take_left]
 unfold openD
 split
 ·have e : cutD d (recsP B).length = (⟨recsP B, ((recsP B).length : Int), d.room, -1, false⟩, 0) := by
   unfold cutD
   rw [hd, if_neg (by decide), hb, if_pos rfl, ht, hf]
   have : min d.safe ((recsP B).length : Int) = ((recsP B).length : Int) := by omega
   rw [this]
  rw [e, if_pos rfl]
  unfold syncD
  simp only
  rw [if_neg (by decide), burnt_neg (by simp only; omega), if_pos rfl]
 ·rename_i hn
  have hnl : d.s.length = (recsP B).length := by omega
  have ht0 : d.s = recsP B := by rw [← ht, ← hnl, List.take_length]
  unfold syncD
  rw [hd, if_neg (by decide), hb, if_pos rfl, hf, ht0]
theorem Hold.crash {d : Dk} {br : Bool} {T : List (Int × Tr)} {n : Nat} (h : Hold d br T n) (keep : Int) :
  ∃ B' T', Scn (crashD d keep) B' T' (n + 1) ∧ (crashD d keep).s.length ≤ 5000 ∧ (openD (crashD d keep) (recsP B').length).2 = 0 ∧ Hold (openD (crashD d keep) (recsP B').length).1 false T' (n + 1) := by
 obtain ⟨h1, h2, h3, B, b, T1, j1, j2, j3, j4, j5, j6, j7, j8, j9, j10⟩ := h
 obtain ⟨k, hk⟩ : ∃ k : Nat, crashN d keep = (k : Int) := ⟨(crashN d keep).toNat, by unfold crashN; rcases j9 with e | ⟨_, e⟩ <;> rw [e] <;> (try rw [List.length_append]) <;> omega⟩
 have hsl : (recsP B).length ≤ k ∧ k ≤ d.s.length := by
  unfold crashN at hk
  rcases j9 with e | ⟨_, e⟩ <;> rw [e] at hk ⊢ <;> (try rw [List.length_append] at hk ⊢) <;> omega
 have e0 : crashD d keep = ⟨d.s.take k, (k : Int), d.room, -1, false⟩ := by unfold crashD; rw [hk]; rfl
 have htl : (d.s.take k).length = k := by rw [List.length_take]; omega
 rw [e0]
 have fin : ∀ (B' : List (List Bs)) (T' : List (Int × Tr)) (tail : Bs), d.s.take k = recsP B' ++ tail → CutT tail → (∀ x ∈ B', mayR x = true ∧ x.length ≤ 1000) → Chgs [] B'.flatten T' → B'.flatten.length + T'.length ≤ 12 * (n + 1) → B'.length ≤ n + 1 →
   ∃ B' T', Scn ⟨d.s.take k, (k : Int), d.room, -1, false⟩ B' T' (n + 1) ∧ (d.s.take k).length ≤ 5000 ∧ (openD ⟨d.s.take k, (k : Int), d.room, -1, false⟩ (recsP B').length).2 = 0 ∧ Hold (openD ⟨d.s.take k, (k : Int), d.room, -1, false⟩ (recsP B').length).1 false T' (n + 1) := by
  intro B' T' tail hs hcu hm hc hl1 hl2
  have ho := open_up2 (d := ⟨d.s.take k, (k : Int), d.room, -1, false⟩) (B := B') (tail := tail) hs rfl rfl (by simp only; rw [htl])
  have hle : (recsP B').length ≤ 5000 := by
   have : (d.s.take k).length = (recsP B').length + tail.length := by rw [hs, List.length_append]
   omega
  refine ⟨B', T', ⟨⟨tail, hs, hcu⟩, hm, hc, by omega, hl2⟩, by omega, by rw [ho], ?_⟩
  rw [ho]
  exact ⟨h1, by simp, hle, B', [], T', hm, hc, hl1, hl2, mayR_nil, ⟨by simp, by rw [List.length_nil]; omega⟩, .nil _, rfl, .inl rfl, fun h => by cases h⟩
 rcases j9 with e | ⟨_, e⟩
 ·have hkk : k = (recsP B).length := by rw [e] at hsl; omega
  exact fin B T [] (by rw [List.append_nil, e, hkk, List.take_length]) (.inl rfl) j1 j2 (by omega) (by omega)
 ·by_cases hf : k = d.s.length
  ·refine fin (B ++ [b]) T1 [] (by rw [List.append_nil, recsP_snoc, ← e, hf]; exact List.take_length ..) (.inl rfl) ?_ (by rw [List.flatten_append]; simpa using j2.app j7) (by rw [List.flatten_append]; simp only [List.flatten_cons, List.flatten_nil, List.append_nil, List.length_append]; omega) (by simp; omega)
   intro x hx
   rcases List.mem_append.1 hx with hx | hx
   ·exact j1 x hx
   ·rw [List.mem_singleton] at hx; rw [hx]; exact ⟨j5, j6.1⟩
  ·refine fin B T ((recP b).take (k - (recsP B).length)) (by rw [e, List.take_append, List.take_of_length_le (by omega)]) (.inr ⟨b, _, j5, j6.1, ?_, rfl⟩) j1 j2 (by omega) (by omega)
   rw [e, List.length_append] at hsl hf
   omega
end Go.Proofs.YthgjdaomcpinaaaGreatDoor
namespace Go.Proofs.YthgjdaomcpinaaaGreatDoor
open Go.RowKit Go.WideMaps Go.Maps Go.Sort Go.Shelf Pl
theorem tchange_come (base q m : Nat) (span : Int) (jp : Value) (T : List (Int × Tr)) (t : Tr) (hT : T.length < 1000000) (hf : fineT t = true) (hh : -9223372036854775808 ≤ t.head.height ∧ t.head.height ≤ 9223372036854775807) (w : World) (hk : KT w) (hM : TrM w base m T) (hbase : base ≤ w.heap.size) (hqm : q ≠ m) (B : Blk w q #[.map (some m), .int .i64 span, jp]) :
  Calls Tryz.prog 69 #[.pointer (some ⟨q, 0, none⟩), .string ⟨List.toArray (1 :: writT t)⟩] w fun e w' => e = .returned (.bool true) ∧ TrM w' base m (putK T t.head.height t) ∧ Blk w' q #[.map (some m), .int .i64 span, jp] ∧ Mod [m] w w' := by
 have hl := writT_len hf
 have q1 := fun W (hk : KT W) => tr_decode (writT t) (by omega) W hk
 rw [decT_writ hf] at q1
 simp only at q1
 generalize writT t = X at *
 have hml := hM.lt
 have hql := B.lt
 have HM := Lib.hid hM
 have HK := Lib.hid hk
 have HB := Lib.hid B
 have k1 : (1 : Int) ≤ (X.length : Int) + 1 := by omega
 clear hM hk B hf
 go_enter Tryz.func69, Tryz.ntmps69
 go_wp2_with fail
 refine (q1 w HK.out).mono ?_
 rintro e w1 ⟨v, rfl, ⟨sk, ms, rfl, r1, r2⟩, hb⟩
 obtain ⟨ka, kc, rfl⟩ := r1.form
 obtain ⟨ma, mc, rfl⟩ := r2.form
 have hs1 := hb.size
 clear q1
 go_wp2_with (first
  | (refine wpList_rowStore row_trust rfl rfl (.tmp 5) (.tmp 20) rfl rfl rfl (vs := [.int .i64 t.head.height, .int .i64 t.head.epoch, .int .i64 t.head.view, .bool t.head.last, .string ⟨List.toArray t.head.parent⟩, .string ⟨List.toArray t.head.state⟩, .string ⟨List.toArray t.head.receipts⟩, .string ⟨List.toArray t.head.txs⟩, .string ⟨List.toArray t.head.members⟩, .string ⟨List.toArray t.head.next⟩, .slice ka t.head.skips.length kc, .slice ma t.set.length mc, .int .i64 t.at_]) rfl (by simp [Value.oneCell']) (us := ztL) rfl (Blk.new' (by simp)) ?_; intro w2 N2 m2; have hb2 := Below.mod (Below.allocS (Below.refl w1.heap.size w1) (.cells ztA 27)) m2 (by simp) (by simp))
  | fail)
 have hbx := hb.trans (hb2.mono hb.size)
 have hs2 := hb2.size
 have hM2 := HM.out.keep hbx
 have hB2 := HB.out.keep hbx
 have r3 := (r1.keep hb2).low hbase
 have r4 := (r2.keep hb2).low hbase
 have hml2 := hM2.lt
 have hmx := Mod.of_below (l := [m]) hbx
 have hmn : m ≠ w1.heap.size := by omega
 have HB2 := Lib.hid hB2
 clear hb2 r1 r2 m2 hb hbx hB2
 refine wpH_startM [m] (by kernel_rfl) (fun hS => ?_)
 (refine hP 0 ?_ ⟨some 24, .move (.tmp 0), 43, "", #[], none⟩ hS ?_ ?_; rotate_left; focus (intro w; go_simp; try with_reducible rfl))
 try simp only [pna, pnb, pnc, pnd, pne]
 (refine hP 1 ?_ ⟨some 25, .nilCheck (.tmp 24), 0, "", #[], none⟩ hS ?_ ?_; rotate_left; focus (intro w; go_simp; try with_reducible rfl))
 try simp only [pna, pnb, pnc, pnd, pne]
 (refine hP 2 ?_ ⟨some 26, .fieldAddr 122 (.tmp 25) 0, 0, "", #[], none⟩ hS ?_ ?_; rotate_left; focus (intro w; go_simp; try with_reducible rfl))
 try simp only [pna, pnb, pnc, pnd, pne]
 refine wpH_load 3 (.map (some m)) (oi := { dst := some 27, op := Op.load 120 (Operand.tmp 26), type := 120, pos := "store.go:53", after := #[{ on := 2, ground := Ground.data }], guard := none }) rfl (by kernel_rfl) (by kernel_rfl) (by kernel_rfl) (by rfl) hS (fun _ _ _ h => h) (fun w hb2 => (by have c := (HB2.out.mod hb2 (by simp; omega)).cell 0; go_simp; try rfl)) ?_
 try simp only [pna, pnb, pnc, pnd, pne]
 (refine hP 4 ?_ ⟨some 28, .fieldAddr 27 (.tmp 5) 0, 0, "", #[], none⟩ hS ?_ ?_; rotate_left; focus (intro w; go_simp; try with_reducible rfl))
 try simp only [pna, pnb, pnc, pnd, pne]
 (refine hP 5 ?_ ⟨some 29, .fieldAddr 24 (.tmp 28) 0, 0, "", #[], none⟩ hS ?_ ?_; rotate_left; focus (intro w; go_simp; try with_reducible rfl))
 try simp only [pna, pnb, pnc, pnd, pne]
 refine wpH_load 6 (.int .i64 t.head.height) (oi := { dst := some 30, op := Op.load 3 (Operand.tmp 29), type := 3, pos := "store.go:53", after := #[{ on := 5, ground := Ground.data }], guard := none }) rfl (by kernel_rfl) (by kernel_rfl) (by kernel_rfl) (by rfl) hS (fun _ _ _ h => h) (fun w hb2 => (by have c := (N2.mod hb2 (by simp; omega)).cell 0; go_simp; try rfl)) ?_
 try simp only [pna, pnb, pnc, pnd, pne]
 refine wpH_row row_trust 7 (oi := { dst := some 31, op := Op.load 27 (Operand.tmp 5), type := 27, pos := "store.go:53", after := #[], guard := none }) rfl (by kernel_rfl) (by kernel_rfl) (by kernel_rfl) (by rfl) hS (vs := [.int .i64 t.head.height, .int .i64 t.head.epoch, .int .i64 t.head.view, .bool t.head.last, .string ⟨List.toArray t.head.parent⟩, .string ⟨List.toArray t.head.state⟩, .string ⟨List.toArray t.head.receipts⟩, .string ⟨List.toArray t.head.txs⟩, .string ⟨List.toArray t.head.members⟩, .string ⟨List.toArray t.head.next⟩, .slice ka t.head.skips.length kc, .slice ma t.set.length mc, .int .i64 t.at_]) (fun _ _ _ h => h) (.tmp 5) rfl rfl (rfl) (fun w hb2 => N2.mod hb2 (by simp; omega)) ?_
 try simp only [pna, pnb, pnc, pnd, pne]
 refine wpH_op 8 (oi := { dst := none, op := Op.mapUpdate 120 (Operand.tmp 27) (Operand.tmp 30) (Operand.tmp 31), type := 0, pos := "store.go:53", after := #[{ on := 3, ground := Ground.data }, { on := 6, ground := Ground.data }, { on := 7, ground := Ground.data }, { on := 0, ground := Ground.phase }, { on := 1, ground := Ground.phase }, { on := 2, ground := Ground.phase }, { on := 3, ground := Ground.phase }, { on := 4, ground := Ground.phase }, { on := 5, ground := Ground.phase }, { on := 6, ground := Ground.phase }, { on := 7, ground := Ground.phase }], guard := none }) rfl (by kernel_rfl) (by rfl) ?_
 refine wp_mapT (.tmp 27) (.tmp 30) (.tmp 31) rfl rfl hM2.drew hT t.head.height hh rfl rfl (show TRow _ base _ t from ⟨_, _, rfl, r3.drew, r4.kept (fun k _ => rfl)⟩) ?_
 rintro w7 hM7 hg7
 have m7 : Mod [m] _ w7 := hS.trans (grown_mod hg7)
 refine ⟨m7, ?_⟩
 try simp only [pna, pnb, pnc, pnd, pne]
 refine wpAnyH_done (by kernel_rfl) ?_ _
 have hB7 := HB2.out.mod m7 (by simp; omega)
 go_wp2_with fail
 go_ret
 exact ⟨rfl, hM7, hB7, hmx.trans m7⟩
theorem tchange_goes (base q m : Nat) (span : Int) (jp : Value) (T : List (Int × Tr)) (k : Nat) (hT : T.length < 1000000) (hk9 : k < 9223372036854775808) (hin : (k : Int) ∈ hts T) (w : World) (hM : TrM w base m T) (hqm : q ≠ m) (B : Blk w q #[.map (some m), .int .i64 span, jp]) :
  Calls Tryz.prog 69 #[.pointer (some ⟨q, 0, none⟩), .string ⟨List.toArray (2 :: num k)⟩] w fun e w' => e = .returned (.bool true) ∧ TrM w' base m (delK T k) ∧ Blk w' q #[.map (some m), .int .i64 span, jp] ∧ Mod [m] w w' := by
 have hl := num_len k
 have h1 := fun W p (h : Rdr W p (num k) 0) => rnum_any (num k) 0 p W h
 have e1 : mNum (num k) 0 = (k, [], 0) := by
  have h := take_num k hk9 []
  rw [List.append_nil] at h
  unfold mNum
  rw [if_neg (by simp), h, if_neg (by simp)]
 rw [e1] at h1
 simp only at h1
 have h2 := fun W p (h : Rdr W p [] 0) => rend_any [] 0 p W h
 rw [show mEnd [] 0 = 0 from rfl] at h2
 have q1 := fun W => readNew (num k) W
 clear e1
 generalize num k = X at *
 have hml := hM.lt
 have hql := B.lt
 have HM := Lib.hid hM
 have HB := Lib.hid B
 obtain ⟨t, ht⟩ := hts_mem hin
 have k1 : (1 : Int) ≤ (X.length : Int) + 1 := by omega
 have HT := Lib.hid ht
 have HIN := Lib.hid hin
 clear hM B ht hin
 go_enter Tryz.func69, Tryz.ntmps69
 go_wp2_with fail
 refine (q1 _).mono ?_
 rintro e w1 ⟨rfl, hw1⟩
 obtain ⟨p, hp⟩ : ∃ p, p = w.heap.size := ⟨_, rfl⟩
 have R1 : Rdr w1 p X 0 := by rw [hw1, hp]; exact Rdr.new (by omega)
 have hb1 : Below w.heap.size w w1 := by rw [hw1]; exact Below.allocS (Below.refl _ _) _
 have hpw : w.heap.size ≤ p := by omega
 rw [← hp]
 clear hw1 q1 hp
 go_wp2_with fail
 refine (h1 _ _ R1).mono ?_
 rintro e w2 ⟨rfl, R2, m2⟩
 have hb2 := Below.mod hb1 m2 hb1.size (by simp; omega)
 have hpl := R2.lt
 clear h1 R1 m2 hb1
 have hM2 := HM.out.keep hb2
 have hB2 := HB.out.keep hb2
 have hs2 := hb2.size
 obtain ⟨v, hrun, hv, _⟩ := hM2.look (k : Int) (by omega)
 have hv := hv t HT.out
 rw [show decide ((k : Int) ∈ hts T) = true from decide_eq_true HIN.out] at hrun
 obtain ⟨sk, ms, rfl, r1, r2⟩ := hv
 obtain ⟨ka, kc, rfl⟩ := r1.form
 obtain ⟨ma, mc, rfl⟩ := r2.form
 obtain ⟨b1, b2, b3⟩ := id hB2
 have HB2 := Lib.hid hB2
 have HM2 := Lib.hid hM2
 clear hB2 hM2 r1 r2
 go_wp2_with (first
  | (refine wpList_rowStore row_trust rfl rfl (.tmp 9) (.tmp 46) rfl rfl rfl (vs := [.int .i64 t.head.height, .int .i64 t.head.epoch, .int .i64 t.head.view, .bool t.head.last, .string ⟨List.toArray t.head.parent⟩, .string ⟨List.toArray t.head.state⟩, .string ⟨List.toArray t.head.receipts⟩, .string ⟨List.toArray t.head.txs⟩, .string ⟨List.toArray t.head.members⟩, .string ⟨List.toArray t.head.next⟩, .slice ka t.head.skips.length kc, .slice ma t.set.length mc, .int .i64 t.at_]) rfl (by simp [Value.oneCell']) (us := ztL) rfl (Blk.new' (by simp)) ?_; intro w3 N3 m3; have hb3 := Below.mod (Below.allocS (Below.refl w2.heap.size w2) (.cells ztA 27)) m3 (by simp) (by simp))
  | fail)
 have R3 : Rdr w3 p [] 0 := R2.keepW hb3
 have hbx := hb2.trans (hb3.mono hb2.size)
 refine (h2 _ _ R3).mono ?_
 rintro e w4 ⟨rfl, m4⟩
 have hb4 := Below.mod hbx m4 hbx.size (by simp; omega)
 have hM4 := HM.out.keep hb4
 have hB4 := HB.out.keep hb4
 obtain ⟨D, ho, hD⟩ := id hM4
 obtain ⟨b1, b2, b3⟩ := id hB4
 have hmx := Mod.of_below (l := [m]) hb4
 have HB4 := Lib.hid hB4
 have HD := Lib.hid hD
 clear h2 R2 R3 hbx hb3 m4 N3 m3 hB4 hM4 hD hrun HB2 HM2
 go_wp2_with (first
  | (at_delete; refine wpList_delete_own _ rfl _ _ 120 3 rfl 27 keyedI Tryz.underlying120 hTv m _ D rfl ho _ _ rfl (keyI (k : Int) (by omega)) ?_; intro w5 ho5 ht5)
  | fail)
 have hg5 := ht5.grown
 obtain ⟨es, c, hblk⟩ := ownsMap_block ho
 have htd := ho.tidy keyedI
 have hD2 := HD.out.del htd HIN.out
 have ho7 := ownsMap_tight ho5
 rw [hD2.size] at ho7
 have hM5 : TrM w5 base m (delK T k) := ⟨_, ho7, hD2.has, fun e he => (by obtain ⟨v, g1, g2⟩ := hD2.val e he; exact ⟨v, g1, g2.grown hblk hg5⟩), hD2.nodup, hD2.size⟩
 have m5 : Mod [m] _ w5 := grown_mod hg5
 have hB5 := HB4.out.mod m5 (by simp; omega)
 go_ret
 exact ⟨rfl, hM5, hB5, hmx.trans m5⟩
end Go.Proofs.YthgjdaomcpinaaaGreatDoor
