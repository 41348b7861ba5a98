/- TLoad, TiedK, TLoadW. -/
import Derived.Test.YtjppbomngnomhaaGreatDoorMx18
set_option linter.unnecessarySimpa false
set_option linter.unusedSimpArgs false
set_option linter.unusedVariables false
set_option maxRecDepth 100000
set_option maxHeartbeats 32000000
namespace Go.Proofs.YtjppbomngnomhaaGreatDoor
open Go.RowKit Go.WideMaps Go.Maps Go.Sort Pl
structure Ldr (w : World) (l sp : Nat) (m : Nat) (c : Int) : Prop where
 blk : Blk w l #[.pointer (some ⟨sp, 0, none⟩), .int .i64 m, .int .i64 c]
 typ : Typ w l 96
theorem Ldr.keep {W w : World} {l sp m : Nat} {c : Int} (h : Ldr W l sp m c) (hb : Below W.heap.size W w) : Ldr w l sp m c := ⟨h.blk.keep hb, h.typ.keep hb⟩
theorem Ldr.code {w : World} {l sp m : Nat} {c : Int} (h : Ldr w l sp m c) (e : Int) : Ldr (w.setCell ⟨l, 2, none⟩ (.int .i64 e)) l sp m e := ⟨h.blk.set 2 _, h.typ.set 2 _⟩
theorem Ldr.many {w : World} {l sp m : Nat} {c : Int} (h : Ldr w l sp m c) (n : Nat) : Ldr (w.setCell ⟨l, 1, none⟩ (.int .i64 n)) l sp n c := ⟨h.blk.set 1 _, h.typ.set 1 _⟩
section
variable {w w' : World} {l sp m : Nat} {c : Int}
theorem Ldr.noKnot (h : Ldr w l sp m c) {b : Nat} {kind : Int} {path val : Bs} {f : Nat → Bs} {ps : Ps} {t s : Bs} {n : Int} (hB : Blk w b (kn kind path val f ps t s n).toArray) : b ≠ l := by
 rintro rfl
 have h1 := hB.kn.many
 rw [h.blk.cell] at h1
 simp at h1
theorem KAt.modl (h : Ldr w l sp m c) (hm : Mod [l] w w') {t : Tri} {p : Option Nat} (hT : KAt w t p) : KAt w' t p := by
 induction hT with
 | nil => exact .nil
 | knot t b ps hn hk hB ih => exact .knot t b ps hn ih (hB.mod hm (by simpa using h.noKnot hB))
theorem KT.modl (h : Ldr w l sp m c) (hm : Mod [l] w w') (hk : KT w) : KT w' := by
 have hne : 0 ≠ l := by
  intro e
  subst e
  have h1 := hk.cell 0 (by omega)
  rw [h.blk.cell] at h1
  simp at h1
 exact ⟨fun i hi => (World.cell?_of_block (a := ⟨0, i, none⟩) (hm.block _ hk.lt (by simpa using hne))).trans (hk.cell i hi), Nat.lt_of_lt_of_le hk.lt hm.size⟩
theorem Sto.modl (h : Ldr w l sp m c) (hm : Mod [l] w w') {base p b : Nat} {T : List Ent} (hS : Sto w base p b T) : Sto w' base p b T := by
 refine hS.kept hm.size (fun k hk => hm.block k (stok_lt hk) ?_)
 rw [List.mem_singleton]
 rintro rfl
 obtain ⟨cs, ht⟩ := h.typ
 rcases hk with ⟨_, _, h⟩ | ⟨_, _, h⟩ | ⟨_, _, h⟩
 ·rw [ht] at h; cases h
 ·rw [ht] at h; injection h with h; injection h with _ h _; exact absurd h (by decide)
 ·rw [ht] at h; injection h with h; injection h with _ h _; exact absurd h (by decide)
end
structure LdQ (w : World) (l sp : Nat) (st : LSt) (w' : World) : Prop where
 ldr : Ldr w' l sp st.1 st.2
 mod : Mod [l] w w'
theorem wrong_any (l sp m : Nat) (e : Int) (w : World) (h : Ldr w l sp m 0) :
  Calls Tryz.prog 68 #[.pointer (some ⟨l, 0, none⟩), .int .i64 e] w fun r w' => r = .returned (.pointer none) ∧ LdQ w l sp (m, e) w' := by
 have c2 : w.cell? ⟨l, 2, none⟩ = some (.int .i64 0) := h.blk.cell 2
 have f2 := h.blk.froz
 have hlt := h.blk.lt
 have HQ : Hid (LdQ w l sp (m, e) (w.setCell ⟨l, 2, none⟩ (.int .i64 e))) := Lib.hid ⟨h.code e, (Mod.refl _ _).setCell (.inl (by simp)) _⟩
 clear h
 go_enter Tryz.func68, Tryz.ntmps68
 go_wp2_with fail
 go_ret
 exact ⟨rfl, HQ.out⟩
theorem litem_any (l sp m : Nat) (hm : m ≤ 1000000) (lg : Nat) (hlg : lg ≤ 1000000) (w : World) (h : Ldr w l sp m 0) :
  Calls Tryz.prog 69 #[.pointer (some ⟨l, 0, none⟩), .int .i64 lg] w fun r w' => r = .returned (.bool (itemL lg (m, 0)).1) ∧ LdQ w l sp (itemL lg (m, 0)).2 w' := by
 by_cases h0 : lg = 0 ∨ lg % 2 = 1
 ·have HE : Hid (itemL lg (m, 0) = (false, (m, 4))) := Lib.hid (by unfold itemL; rw [if_pos h0])
  rw [HE.out]
  have HW := Lib.hid (wrong_any l sp m 4 w h)
  clear h HE
  by_cases h1 : lg = 0
  ·subst h1
   clear h0
   go_enter Tryz.func69, Tryz.ntmps69
   go_wp2_with fail
   refine HW.out.mono ?_
   rintro e w1 ⟨rfl, hq⟩
   go_wp2_with fail
   go_ret
   exact ⟨rfl, hq⟩
  ·have h2 : lg % 2 = 1 := by omega
   have z1 : ((lg : Int) == 0) = false := by rw [beq_eq_false_iff_ne]; omega
   have z3 : (lg : Int).tmod 2 = 1 := by rw [Int.tmod_eq_emod_of_nonneg (by omega)]; omega
   have z2 : IntKind.i64.wrap ((lg : Int).tmod 2) = 1 := by rw [z3]; rfl
   clear h0 h1 h2
   go_enter Tryz.func69, Tryz.ntmps69
   go_wp2_with fail
   refine HW.out.mono ?_
   rintro e w1 ⟨rfl, hq⟩
   go_wp2_with fail
   go_ret
   exact ⟨rfl, hq⟩
 ·have z1 : ((lg : Int) == 0) = false := by rw [beq_eq_false_iff_ne]; omega
  have z3 : (lg : Int).tmod 2 = 0 := by rw [Int.tmod_eq_emod_of_nonneg (by omega)]; omega
  have z2 : IntKind.i64.wrap ((lg : Int).tmod 2) = 0 := by rw [z3]; rfl
  have c1 : w.cell? ⟨l, 1, none⟩ = some (.int .i64 m) := h.blk.cell 1
  have f1 := h.blk.froz
  have hlt := h.blk.lt
  have hw1 : IntKind.i64.wrap ((m : Int) + 1) = ((m + 1 : Nat) : Int) := by rw [IntKind.wrap_i64]; omega
  have h' := h.many (m + 1)
  have hmd : Mod [l] w (w.setCell ⟨l, 1, none⟩ (.int .i64 ((m + 1 : Nat)))) := (Mod.refl _ _).setCell (.inl (by simp)) _
  by_cases h1 : 1024 < m + 1
  ·have HE : Hid (itemL lg (m, 0) = (false, (m + 1, 2))) := Lib.hid (by unfold itemL; rw [if_neg h0, if_pos h1])
   rw [HE.out]
   have HW := Lib.hid (wrong_any l sp (m + 1) 2 _ h')
   have HMD := Lib.hid hmd
   have d1 : decide ((1024 : Int) < (m : Int) + 1) = true := by simp; omega
   have d2 : decide ((1024 : Int) < ((m + 1 : Nat) : Int)) = true := by simp; omega
   clear h h' HE h0 h1 hmd
   go_enter Tryz.func69, Tryz.ntmps69
   go_wp2_with fail
   refine HW.out.mono ?_
   rintro e w1 ⟨rfl, hq⟩
   go_wp2_with fail
   go_ret
   exact ⟨rfl, hq.ldr, HMD.out.trans hq.mod⟩
  ·have HE : Hid (itemL lg (m, 0) = (true, (m + 1, 0))) := Lib.hid (by unfold itemL; rw [if_neg h0, if_neg h1])
   rw [HE.out]
   have HMD := Lib.hid hmd
   have HH := Lib.hid h'
   have d1 : decide ((1024 : Int) < (m : Int) + 1) = false := by simp; omega
   have d2 : decide ((1024 : Int) < ((m + 1 : Nat) : Int)) = false := by simp; omega
   clear h h' HE h0 h1 hmd
   go_enter Tryz.func69, Tryz.ntmps69
   go_wp2_with fail
   go_ret
   exact ⟨rfl, HH.out, HMD.out⟩
end Go.Proofs.YtjppbomngnomhaaGreatDoor
namespace Go.Proofs.YtjppbomngnomhaaGreatDoor
open Go.RowKit Pl
def kidsUpK (kk : Nat → Bs) (T : Nat → Tri) (k : Nat) : Nat → Bs := fun i => if i < k ∧ isN (T i) = false then sumT (T i) else kk i
theorem kidsUpK_zero (kk : Nat → Bs) (T : Nat → Tri) : kidsUpK kk T 0 = kk := by
 funext i
 simp [kidsUpK]
theorem kidsUpK_succ (kk : Nat → Bs) (T : Nat → Tri) (k : Nat) (h : T k ≠ .nil) : kidsUpK kk T (k + 1) = upd (kidsUpK kk T k) k (sumT (T k)) := by
 funext i
 simp only [kidsUpK, upd]
 by_cases e : i = k
 ·subst e
  rw [if_pos ⟨by omega, (isN_not _).2 h⟩, if_pos rfl]
 ·rw [if_neg e]
  by_cases h2 : i < k ∧ isN (T i) = false
  ·rw [if_pos h2, if_pos ⟨by omega, h2.2⟩]
  ·rw [if_neg h2, if_neg (fun x => h2 ⟨by omega, x.2⟩)]
theorem kidsUpK_skip (kk : Nat → Bs) (T : Nat → Tri) (k : Nat) (h : T k = .nil) : kidsUpK kk T (k + 1) = kidsUpK kk T k := by
 funext i
 simp only [kidsUpK]
 by_cases e : i = k
 ·subst e
  rw [if_neg (fun x => (isN_not _).1 x.2 h), if_neg (fun x => (isN_not _).1 x.2 h)]
 ·by_cases h2 : i < k ∧ isN (T i) = false
  ·rw [if_pos h2, if_pos ⟨by omega, h2.2⟩]
  ·rw [if_neg h2, if_neg (fun x => h2 ⟨by omega, x.2⟩)]
theorem kidsUpK_all (kk : Nat → Bs) (T : Nat → Tri) (hz : ∀ i, i < 16 → T i = .nil → kk i = []) (hz2 : ∀ i, 16 ≤ i → kk i = []) : kidsUpK kk T 16 = kidF fun i => sumT (T i) := by
 funext i
 simp only [kidsUpK, kidF]
 by_cases h : i < 16
 ·rw [if_pos h]
  by_cases e : T i = .nil
  ·rw [if_neg (fun x => (isN_not _).1 x.2 e), hz i h e, e]; rfl
  ·rw [if_pos ⟨h, (isN_not _).2 e⟩]
 ·rw [if_neg (fun x => h x.1), if_neg h]
  exact hz2 i (by omega)
theorem tiedK_any (kind : Int) (path val : Bs) (hp : path.length ≤ 1000) (kk : Nat → Bs) (T : Nat → Tri) (ps : Ps) (hz : ∀ i, i < 16 → T i = .nil → kk i = []) (hz2 : ∀ i, 16 ≤ i → kk i = []) (w : World) (hk : KT w) (hT : ∀ i, i < 16 → KAt w (T i) (ps i)) :
  Calls Tryz.prog 70 #[.agg (nd kind path val kk).toArray, .agg (pk ps).toArray] w fun e w' => ∃ b, e = .returned (.pointer (some ⟨b, 0, none⟩)) ∧ Below w.heap.size w w' ∧
   Blk w' b (kn kind path val (kidF fun i => sumT (T i)) ps (encR kind path val (kidF fun i => sumT (T i))).1 (dgP kind path val (kidF fun i => sumT (T i))) (w64 (cntT T 16 + ownN val))).toArray := by
 have hB1 := Blk.new w (nd kind path val kk).toArray 76
 have hB2 := Blk.new (w.alloc (.cells (nd kind path val kk).toArray 76)) (pk ps).toArray 77
 have hsz : (w.alloc (.cells (nd kind path val kk).toArray 76)).heap.size = w.heap.size + 1 := by simp
 rw [hsz] at hB2
 have hB1' := hB1.alloc (.cells (pk ps).toArray 77)
 have hB3 := Blk.new ((w.alloc (.cells (nd kind path val kk).toArray 76)).alloc (.cells (pk ps).toArray 77)) (kn kind path val kk ps [] [] 0).toArray 79
 have hsz2 : ((w.alloc (.cells (nd kind path val kk).toArray 76)).alloc (.cells (pk ps).toArray 77)).heap.size = w.heap.size + 1 + 1 := by simp
 rw [hsz2] at hB3
 have hB2' := hB2.alloc (.cells (kn kind path val kk ps [] [] 0).toArray 79)
 have hB1'' := hB1'.alloc (.cells (kn kind path val kk ps [] [] 0).toArray 79)
 have hb0 : Below w.heap.size w ((((w.alloc (.cells (nd kind path val kk).toArray 76)).alloc (.cells (pk ps).toArray 77))).alloc (.cells (kn kind path val kk ps [] [] 0).toArray 79)) :=
  Below.allocS (Below.allocS (Below.allocS (Below.refl _ _) _) _) _
 have HUP := Lib.hid (kidsUpK_all kk T hz hz2)
 clear hsz hsz2 hz hz2
 go_enter Tryz.func70, Tryz.ntmps70
 go_wp2_with (first
  | (refine wpList_node rfl (.tmp 2) rfl rfl hB1' ?_)
  | (refine wpList_rowLoad row16p rfl (.tmp 3) rfl rfl (pk_len ps) hB2 ?_)
  | (refine wpList_bTo rfl 79 _ rfl (kn kind path val kk ps [] [] 0).toArray (by kernel_rfl) ?_)
  | (refine wpList_rowLoad row16p rfl (.tmp 3) rfl rfl (pk_len ps) hB2' ?_)
  | fail)
 clear hB1 hB1' hB2 hB2'
 go_loopw [13] (fun s13 wr => ∃ k : Nat, k ≤ 16 ∧ s13 = .int .i64 k ∧ Blk wr (w.heap.size + 1 + 1) (kn kind path val (kidsUpK kk T k) ps [] [] (w64 (cntT T k))).toArray ∧ Blk wr w.heap.size (nd kind path val kk).toArray ∧ Below w.heap.size w wr) (fun s13 _ => 16 - (intOf s13).toNat)
 case atStart => exact ⟨0, by omega, rfl, by rw [kidsUpK_zero, show cntT T 0 = 0 from rfl, w64_zero]; exact hB3, hB1'', hb0⟩
 case round =>
  obtain ⟨k, hk16, rfl, hB, hN, hb⟩ := hrel
  clear hB3 hb0 hB1''
  rename_i wr
  by_cases hlt : k < 16
  ·have hlt' : (k : Int) < 16 := by omega
   have hki := pk_index ps k hlt
   rcases kat_kid (hT k hlt) with ⟨e1, e2⟩ | ⟨c, e1, e2, hc, c1, c2⟩
   ·rw [e1, ptV_none] at hki
    go_wp2_with fail
    exact ⟨⟨k + 1, by omega, by go_num, by rw [kidsUpK_skip kk T k e2, cntT, e2]; exact hB, hN, hb⟩, by simp [intOf]; omega⟩
   ·rw [e1, ptV_some] at hki
    have c1' := keepC hb c1
    have c2' := keepC hb c2
    have hne : ¬ (c = w.heap.size + 1 + 1) := by omega
    have k1 := (hB.cell (3 + k)).trans (kn_kid_at _ _ _ _ _ _ _ _ k hlt)
    have k2 := hB.kn.many
    have k3 := hB.froz
    have k4 := hB.lt
    have k5 : (0 : Int) ≤ (k : Int) ∧ (k : Int) < 16 := by omega
    have HB := Lib.hid hB
    have HN := Lib.hid hN
    clear c1 c2 hB hN
    go_wp2_with fail
    go_region
    go_wp2_with fail
    go_region
    go_wp2_with fail
    have hB2 := (HB.out.set (3 + k) (.string ⟨List.toArray (sumT (T k))⟩)).set 37 (.int .i64 (wrap64 (w64 (cntT T k) + w64 (rp (T k)).length)))
    rw [kn_kid _ _ _ _ _ _ _ _ _ k hlt, kn_many, ← kidsUpK_succ kk T k e2, w64_add'] at hB2
    rw [w64_add']
    refine ⟨⟨k + 1, by omega, by go_num, hB2.drew.drew, ((HN.out.other (a := ⟨w.heap.size + 1 + 1, 3 + k, none⟩) (by show w.heap.size + 1 + 1 ≠ w.heap.size; omega) _).other (a := ⟨w.heap.size + 1 + 1, 37, none⟩) (by show w.heap.size + 1 + 1 ≠ w.heap.size; omega) _).drew.drew, ?_⟩, by simp [intOf]; omega⟩
    exact ((hb.setCell (p := ⟨w.heap.size + 1 + 1, 3 + k, none⟩) (by show w.heap.size ≤ w.heap.size + 1 + 1; omega) _).setCell (p := ⟨w.heap.size + 1 + 1, 37, none⟩) (by show w.heap.size ≤ w.heap.size + 1 + 1; omega) _).drew.drew
  ·have hke : k = 16 := by omega
   subst hke
   have n2 : wr.cell? ⟨w.heap.size, 2, none⟩ = some (.string ⟨List.toArray val⟩) := hN.cell 2
   by_cases hv : val = []
   ·subst hv
    have HO : Hid (cntT T 16 + ownN [] = cntT T 16) := Lib.hid (by simp [ownN])
    have hBz := hB
    have hbz := hb
    clear hN
    go_wp2_with (first
     | (refine wpList_knNode rfl (.tmp 55) rfl rfl hBz ?_)
     | fail)
    refine (encode_any kind path [] (kidsUpK kk T 16) (by omega) _).mono ?_
    rintro e w1 ⟨rfl, hb1⟩
    have hB1 := hBz.keep hb1
    have hbw := hbz.trans (hb1.mono hbz.size)
    have t1 := hB1.kn.text
    have t3 := hB1.froz
    have t4 := hB1.lt
    have hB2 := hB1.set 35 (.string ⟨List.toArray ((encR kind path [] (kidsUpK kk T 16)).1)⟩)
    rw [kn_text] at hB2
    have hbw2 := hbw.setCell (p := ⟨w.heap.size + 1 + 1, 35, none⟩) (by show w.heap.size ≤ w.heap.size + 1 + 1; omega) (.string ⟨List.toArray ((encR kind path [] (kidsUpK kk T 16)).1)⟩)
    have HB1 := Lib.hid hB1
    clear hB1 hBz hb1
    go_wp2_with (first
     | (refine wpList_knNode rfl (.tmp 65) rfl rfl hB2 ?_)
     | fail)
    refine (ndigest_any kind path [] (kidsUpK kk T 16) hp _ (hk.keep hbw2)).mono ?_
    rintro e w2 ⟨rfl, hb2⟩
    have hB3 := hB2.keep hb2
    have hbw3 := hbw2.trans (hb2.mono hbw2.size)
    have u1 := hB3.kn.sum
    have u3 := hB3.froz
    have u4 := hB3.lt
    have hB4 := hB3.set 36 (.string ⟨List.toArray (dgP kind path [] (kidsUpK kk T 16))⟩)
    rw [kn_sum] at hB4
    have HB3 := Lib.hid hB3
    clear hB3 hB2 hb2
    go_wp2_with fail
    go_ret
    exact ⟨_, rfl, hbw3.setCell (p := ⟨w.heap.size + 1 + 1, 36, none⟩) (by show w.heap.size ≤ w.heap.size + 1 + 1; omega) _, by rw [HO.out, ← HUP.out]; exact hB4⟩
   ·have HO : Hid (cntT T 16 + ownN val = cntT T 16 + 1) := Lib.hid (by simp [ownN, hv])
    have hv1 : val.isEmpty = false := by simpa using hv
    have k2 := hB.kn.many
    have k3 := hB.froz
    have k4 := hB.lt
    have hw1 := w64_one' (cntT T 16)
    have hBz := hB.set 37 (.int .i64 (w64 (cntT T 16 + 1)))
    rw [kn_many] at hBz
    have hbz := hb.setCell (p := ⟨w.heap.size + 1 + 1, 37, none⟩) (by show w.heap.size ≤ w.heap.size + 1 + 1; omega) (.int .i64 (w64 (cntT T 16 + 1)))
    clear hN
    go_wp2_with (first
     | (refine wpList_knNode rfl (.tmp 55) rfl rfl hBz ?_)
     | fail)
    refine (encode_any kind path val (kidsUpK kk T 16) (by omega) _).mono ?_
    rintro e w1 ⟨rfl, hb1⟩
    have hB1 := hBz.keep hb1
    have hbw := hbz.trans (hb1.mono hbz.size)
    have t1 := hB1.kn.text
    have t3 := hB1.froz
    have t4 := hB1.lt
    have hB2 := hB1.set 35 (.string ⟨List.toArray ((encR kind path val (kidsUpK kk T 16)).1)⟩)
    rw [kn_text] at hB2
    have hbw2 := hbw.setCell (p := ⟨w.heap.size + 1 + 1, 35, none⟩) (by show w.heap.size ≤ w.heap.size + 1 + 1; omega) (.string ⟨List.toArray ((encR kind path val (kidsUpK kk T 16)).1)⟩)
    have HB1 := Lib.hid hB1
    clear hB1 hBz hb1
    go_wp2_with (first
     | (refine wpList_knNode rfl (.tmp 65) rfl rfl hB2 ?_)
     | fail)
    refine (ndigest_any kind path val (kidsUpK kk T 16) hp _ (hk.keep hbw2)).mono ?_
    rintro e w2 ⟨rfl, hb2⟩
    have hB3 := hB2.keep hb2
    have hbw3 := hbw2.trans (hb2.mono hbw2.size)
    have u1 := hB3.kn.sum
    have u3 := hB3.froz
    have u4 := hB3.lt
    have hB4 := hB3.set 36 (.string ⟨List.toArray (dgP kind path val (kidsUpK kk T 16))⟩)
    rw [kn_sum] at hB4
    have HB3 := Lib.hid hB3
    clear hB3 hB2 hb2
    go_wp2_with fail
    go_ret
    exact ⟨_, rfl, hbw3.setCell (p := ⟨w.heap.size + 1 + 1, 36, none⟩) (by show w.heap.size ≤ w.heap.size + 1 + 1; omega) _, by rw [HO.out, ← HUP.out]; exact hB4⟩
end Go.Proofs.YtjppbomngnomhaaGreatDoor
namespace Go.Proofs.YtjppbomngnomhaaGreatDoor
open Go.RowKit Go.WideMaps Go.Maps Go.Sort Pl
def LdP (w : World) (l sp : Nat) (r : Tri × LSt) (e : Ending) (w' : World) : Prop := ∃ p, e = .returned (ptV p) ∧ LdQ w l sp r.2 w' ∧ KAt w' r.1 p
theorem load_stop (l sp m : Nat) (c : Int) (hc : c ≠ 0) (s place : Bs) (bel : Bool) (w : World) (hL : Ldr w l sp m c) :
  Calls Tryz.prog 50 #[.pointer (some ⟨l, 0, none⟩), .string ⟨List.toArray s⟩, .string ⟨List.toArray place⟩, .bool bel] w (LdP w l sp (.nil, (m, c))) := by
 have c2 : w.cell? ⟨l, 2, none⟩ = some (.int .i64 c) := hL.blk.cell 2
 have z1 : (c == 0) = false := by simpa using hc
 have z2 : (c != 0) = true := by simpa using hc
 have HL := Lib.hid hL
 clear hL hc
 go_enter Tryz.func50, Tryz.ntmps50
 go_wp2_with fail
 go_ret
 exact ⟨none, rfl, ⟨HL.out, Mod.refl _ _⟩, .nil⟩
theorem chk_path {k : Int} {p v : Bs} {kid : Nat → Bs} (h : chk k p v kid = true) : p.length ≤ 16 := by
 unfold chk at h
 split at h
 ·simp only [Bool.and_eq_true, pathOk, decide_eq_true_eq] at h
  have := h.1.1.2.2
  omega
 ·split at h
  ·simp only [Bool.and_eq_true, pathOk, decide_eq_true_eq] at h
   have := h.1.2.2
   omega
  ·split at h
   ·simp only [Bool.and_eq_true] at h
    have := h.1.1.1
    simp only [List.isEmpty_iff] at this
    subst this
    simp
   ·cases h
theorem row16s : RowT Tryz.prog 74 16 := RowT.mk' Tryz.underlying74 rfl (by kernel_rfl)
theorem nd_kidF (k : Int) (p v : Bs) (kid : Nat → Bs) : nd k p v (kidF kid) = nd k p v kid := by
 unfold nd ka
 congr 4
theorem chk_kid {k : Int} {p v : Bs} {kid : Nat → Bs} (h : chk k p v kid = true) : ∀ i, i < 16 → (kid i).length ≤ 32 := by
 intro i hi
 unfold chk at h
 split at h
 ·simp only [Bool.and_eq_true] at h
  rw [noKids_all h.1.1.1 i hi]; simp
 ·split at h
  ·simp only [Bool.and_eq_true] at h
   have h1 := (oneKid_all h.1.1.1).2
   rcases Nat.eq_zero_or_pos i with e | e
   ·subst e
    have := h.1.1.2
    simp [all32] at this
    omega
   ·rw [h1 i e hi]; simp
  ·split at h
   ·simp only [Bool.and_eq_true] at h
    have h1 := h.1.1.2
    by_cases e : kid i = []
    ·rw [e]; simp
    ·unfold all32 at h1
     rw [List.all_eq_true] at h1
     have := h1 (kid i) (by
      unfold kidsF kidsTo
      rw [List.mem_filter]
      exact ⟨List.mem_map.2 ⟨i, List.mem_range.2 hi, rfl⟩, by simpa using e⟩)
     simp only [decide_eq_true_eq] at this
     omega
   ·cases h
theorem chk_kind {k : Int} {p v : Bs} {kid : Nat → Bs} (h : chk k p v kid = true) : (k = 1 ∧ noKids kid = true) ∨ (k = 2 ∧ oneKidX kid (kid 0) = true ∧ v = [] ∧ 1 ≤ p.length) ∨ (k = 3 ∧ p = []) := by
 unfold chk at h
 split at h
 ·simp only [Bool.and_eq_true] at h
  exact .inl ⟨by assumption, h.1.1.1⟩
 ·split at h
  ·simp only [Bool.and_eq_true] at h
   exact .inr (.inl ⟨by assumption, h.1.1.1, by simpa using h.2, by have := (fit_of_path h.1.2).2; omega⟩)
  ·split at h
   ·simp only [Bool.and_eq_true] at h
    exact .inr (.inr ⟨by assumption, by simpa using h.1.1.1⟩)
   ·cases h
theorem tri_made {kd : Int} {pa va : Bs} {kk : Nat → Bs} (h : chk kd pa va kk = true) {K : Nat → Tri} (ho : ∀ i, 16 ≤ i → K i = .nil) (hn : ∀ i, kk i = [] → K i = .nil) :
  kindT (triOf ⟨kd, pa, va, kk⟩ K) = kd ∧ pathT (triOf ⟨kd, pa, va, kk⟩ K) = pa ∧ valT (triOf ⟨kd, pa, va, kk⟩ K) = va ∧ kidsOf (triOf ⟨kd, pa, va, kk⟩ K) = K ∧ triOf ⟨kd, pa, va, kk⟩ K ≠ .nil := by
 rcases chk_kind h with ⟨rfl, hk⟩ | ⟨rfl, hk, rfl, _⟩ | ⟨rfl, rfl⟩
 ·rw [show triOf ⟨1, pa, va, kk⟩ K = .leaf pa va from by simp [triOf]]
  refine ⟨rfl, rfl, rfl, ?_, by simp⟩
  funext i
  show Tri.nil = K i
  by_cases hi : i < 16
  ·exact (hn i (noKids_all hk i hi)).symm
  ·exact (ho i (by omega)).symm
 ·rw [show triOf ⟨2, pa, [], kk⟩ K = .ext pa (K 0) from by simp [triOf]]
  refine ⟨rfl, rfl, rfl, ?_, by simp⟩
  funext i
  simp only [kidsOf, updT, noT]
  by_cases e : i = 0
  ·subst e; simp
  ·rw [if_neg e]
   by_cases hi : i < 16
   ·exact (hn i ((oneKid_all hk).2 i (by omega) hi)).symm
   ·exact (ho i (by omega)).symm
 ·rw [show triOf ⟨3, [], va, kk⟩ K = .br va K from by simp [triOf]]
  exact ⟨rfl, rfl, rfl, rfl, by simp⟩
theorem fit_at {kd : Int} {pa va : Bs} {kk : Nat → Bs} {pl : Nat} (hck : chk kd pa va kk = true) (h1 : pl + pa.length ≤ 16) (h2 : innerL ⟨kd, pa, va, kk⟩ = true → pl + pa.length < 16) :
  (∃ i, i < 16 ∧ kk i ≠ []) → atL ⟨kd, pa, va, kk⟩ pl ≤ 16 ∧ pl < atL ⟨kd, pa, va, kk⟩ pl := by
 rintro ⟨i, hi, hne⟩
 rcases chk_kind hck with ⟨_, hk⟩ | ⟨rfl, _, _, h3⟩ | ⟨rfl, rfl⟩
 ·exact absurd (noKids_all hk i hi) hne
 ·have e : atL ⟨2, pa, va, kk⟩ pl = pl + pa.length := by simp [atL]
  rw [e]; omega
 ·have h4 : innerL ⟨3, [], va, kk⟩ = true := by
   have : noKids kk = false := by
    cases h : noKids kk with
    | false => rfl
    | true => exact absurd (noKids_all h i hi) hne
   simp [innerL, this]
  have := h2 h4
  simp only [List.length_nil] at this
  have e : atL ⟨3, [], va, kk⟩ pl = pl + 1 := by simp [atL]
  rw [e]; omega
theorem lp_all (g : Bs → LSt → Tri × LSt) (pl : Nat) (bel : Bool) (kk : Nat → Bs) (m : Nat) (he : ∀ s st, st.2 ≠ 0 → g s st = (.nil, st)) (hg : (∃ i, i < 16 ∧ kk i ≠ []) → ∀ s st, st.2 = 0 → LOk pl bel st.1 (g s st)) : ∀ k, k ≤ 16 → LpOk pl m kk k (loopK g kk (m, 0) k) := by
 intro k hk
 by_cases h : ∃ i, i < 16 ∧ kk i ≠ []
 ·exact loop_ok g pl bel (hg h) he kk m k
 ·have hno : ∀ i, i < 16 → kk i = [] := fun i hi => by
   rcases Classical.em (kk i = []) with e | e
   ·exact e
   ·exact absurd ⟨i, hi, e⟩ h
  have hlp : ∀ k, k ≤ 16 → loopK g kk (m, 0) k = (noT, (m, 0)) := by
   intro k
   induction k with
   | zero => intro _; rfl
   | succ k ihk =>
    intro hk
    simp only [loopK]
    rw [if_pos (hno k (by omega)), ihk (by omega)]
  rw [hlp k hk]
  exact ⟨fun _ _ => rfl, fun _ _ => rfl, fun _ _ _ => trivial, fun _ i hi hne => absurd (hno i (by omega)) hne, fun _ _ _ x hx => (by cases hx), fun _ => ⟨by rw [cntT_no]; rfl, fun h => h⟩⟩
theorem Mod.name {l : List Nat} {a w : World} (_ : Mod l a w) : ∃ w' : World, w' = w := ⟨_, rfl⟩
theorem nd_zero_new (w : World) : Blk (w.alloc (.cells (nd 0 [] [] noK).toArray 76)) w.heap.size (nd 0 [] [] noK).toArray := Blk.new _ _ _
theorem loadN_any (T : List Ent) (f base b sp l : Nat) (s place : Bs) (bel : Bool) (m : Nat) (hsh : ShortE T) (hs : s.length ≤ maxLen) (hp : place.length ≤ 16) (hm : m ≤ 1024) (hf : 17 ≤ place.length + (f + 1)) (w : World) (hk : KT w) (hS : Sto w base sp b T) (hL : Ldr w l sp m 0)
  (ih : ∀ (s' place' : Bs) (bel' : Bool) (m' : Nat) (c' : Int) (W : World), s'.length ≤ maxLen → place'.length ≤ 16 → place.length < place'.length → (c' = 0 → m' ≤ 1024) → KT W → Sto W base sp b T → Ldr W l sp m' c' →
   Calls Tryz.prog 50 #[.pointer (some ⟨l, 0, none⟩), .string ⟨List.toArray s'⟩, .string ⟨List.toArray place'⟩, .bool bel'] W (LdP W l sp (loadK T f s' place'.length bel' (m', c')))) :
  Calls Tryz.prog 50 #[.pointer (some ⟨l, 0, none⟩), .string ⟨List.toArray s⟩, .string ⟨List.toArray place⟩, .bool bel] w (LdP w l sp (loadK T (f + 1) s place.length bel (m, 0))) := by
 have hn := snode_any base sp b T hsh s hs w hS
 have hck := node_two T s
 have HR : Hid (loadK T (f + 1) s place.length bel (m, 0) = if (nodeT T s).2 ≠ 0 then (.nil, (m, (nodeT T s).2)) else loadN (fun s' st' => loadK T f s' (atL (nodeT T s).1 place.length) ((nodeT T s).1.kind == 2) st') (nodeT T s).1 place.length bel (m, 0)) := Lib.hid (by simp only [loadK]; rw [if_neg (by simp)])
 generalize hr : loadK T (f + 1) s place.length bel (m, 0) = r at *
 have c2 : w.cell? ⟨l, 2, none⟩ = some (.int .i64 0) := hL.blk.cell 2
 have c0 : w.cell? ⟨l, 0, none⟩ = some (.pointer (some ⟨sp, 0, none⟩)) := hL.blk.cell 0
 have HK := Lib.hid hk
 have HS := Lib.hid hS
 have HL := Lib.hid hL
 have HIH := Lib.hid ih
 obtain ⟨⟨⟨kd, pa, va, kk⟩, code⟩, hq⟩ : ∃ q, q = nodeT T s := ⟨_, rfl⟩
 rw [← hq] at hn hck HR
 simp only at hn hck
 clear hr hq hk hS hL ih
 go_enter Tryz.func50, Tryz.ntmps50
 go_wp2_with fail
 refine hn.mono ?_
 rintro e w1 ⟨rfl, hb1⟩
 have HL1 := Lib.hid (HL.out.keep hb1)
 have HB1 := Lib.hid hb1
 have hN0 := nd_zero_new w1
 rw [zero_node] at hN0
 clear hn hb1 c2 c0
 by_cases hc : code = 0
 rotate_left
 ·have z1 : (code == 0) = false := by simpa using hc
  have z2 : (code != 0) = true := by simpa using hc
  have HE : Hid (r = (.nil, (m, code))) := Lib.hid (by rw [HR.out]; simp [hc])
  clear hck HR hc
  rw [← zero_node] at hN0
  go_wp2_with (first
   | (refine wpList_nodeStore rfl rfl (.tmp 9) (.tmp 29) rfl rfl (kind := kd) (path := pa) (val := va) (kid := kk) rfl hN0 ?_; intro w2 N9 m9)
   | fail)
  have hb2 : Below w1.heap.size w1 w2 := Below.mod (Below.allocS (Below.refl _ _) _) m9 (by simp) (by simp)
  have HW := Lib.hid (wrong_any l sp m code w2 (HL1.out.keep hb2))
  clear hN0 m9
  go_wp2_with fail
  refine HW.out.mono ?_
  rintro e w3 ⟨rfl, hq⟩
  go_wp2_with fail
  go_ret
  rw [HE.out]
  exact ⟨none, rfl, ⟨hq.ldr, (Mod.of_below HB1.out).trans ((Mod.of_below hb2).trans hq.mod)⟩, .nil⟩
 subst hc
 have hck := hck rfl
 rw [← zero_node] at hN0
 have hpl : pa.length ≤ 16 := chk_path hck
 have hwl : wrap64 ((place.length : Int) + (pa.length : Int)) = ((place.length + pa.length : Nat) : Int) := by simp only [wrap64]; omega
 go_upto_region 4 with (first
  | (refine wpList_nodeStore rfl rfl (.tmp 9) (.tmp 29) rfl rfl (kind := kd) (path := pa) (val := va) (kid := kk) rfl hN0 ?_; intro w2 N9 m9)
  | fail)
 have hb2 : Below w1.heap.size w1 w2 := Below.mod (Below.allocS (Below.refl _ _) _) m9 (by simp) (by simp)
 have HL2 := Lib.hid (HL1.out.keep hb2)
 have hb02 := HB1.out.trans (hb2.mono HB1.out.size)
 have HM2 := Lib.hid (Mod.of_below (l := [l]) hb02)
 have hlk : l < w1.heap.size := HL1.out.blk.lt
 have HR : Hid (r = loadN (fun s' st' => loadK T f s' (atL ⟨kd, pa, va, kk⟩ place.length) (kd == 2) st') ⟨kd, pa, va, kk⟩ place.length bel (m, 0)) := Lib.hid (by rw [HR.out]; simp)
 have HCK := Lib.hid hck
 have HS2 := Lib.hid (HS.out.keep hb02)
 have HK2 := Lib.hid (HK.out.keep hb02)
 have hwk : w.heap.size ≤ w1.heap.size := HB1.out.size
 generalize hk9 : w1.heap.size = k9 at *
 have n0 : w2.cell? ⟨k9, 0, none⟩ = some (.int .i64 kd) := N9.cell 0
 have n1 : w2.cell? ⟨k9, 1, none⟩ = some (.string ⟨List.toArray pa⟩) := N9.cell 1
 have n2 : w2.cell? ⟨k9, 2, none⟩ = some (.string ⟨List.toArray va⟩) := N9.cell 2
 clear hN0 m9 hb2 HB1 HL1 hk9 hck hb02
 have hnr := ka_range N9
 generalize hiv : innerL ⟨kd, pa, va, kk⟩ = iv at *
 have HIV := Lib.hid hiv
 clear hiv hck
 go_upto_region 7 with fail
 go_cut [12] (fun s12 wx => s12 = .bool iv ∧ w2 = wx)
 case first =>
  by_cases k3 : kd = 3
  ·have z3 : (kd == 3) = true := by simpa using k3
   have HE : Hid (noKids kk = !iv) := Lib.hid (by rw [← HIV.out]; simp [innerL, k3])
   have hqe := HE.out
   clear k3
   go_wp2_with (first
    | (refine wpList_rowRG row16s (by rfl) (.tmp 46) rfl rfl (ka_len kk) hnr ?_)
    | fail)
   go_meet
   exact ⟨by simp, rfl⟩
  ·have z3 : (kd == 3) = false := by simpa using k3
   have HE : Hid (iv = false) := Lib.hid (by rw [← HIV.out]; simp [innerL, k3])
   clear k3
   go_wp2_with fail
   go_meet
   exact ⟨by rw [HE.out], rfl⟩
 case rest =>
 obtain ⟨rfl, rfl⟩ := hcut
 obtain ⟨bd, hbd⟩ : ∃ x, badL ⟨kd, pa, va, kk⟩ place.length bel = x := ⟨_, rfl⟩
 have HBD := Lib.hid hbd
 have HB : Hid (bd = ((bel && kd != 3) || decide (16 < place.length + pa.length) || (iv && decide (16 ≤ place.length + pa.length)))) := Lib.hid (by rw [← HBD.out, ← HIV.out]; rfl)
 clear hbd hnr
 go_upto_region 8 with fail
 go_cut [67] (fun s67 wx => s67 = .bool bd ∧ w2 = wx)
 case first =>
  have fin : ∀ x y z : Bool, (bel && kd != 3) = x → decide (16 < place.length + pa.length) = y → (iv && decide (16 ≤ place.length + pa.length)) = z → Hid (bd = (x || y || z)) := fun x y z h1 h2 h3 => Lib.hid (by rw [HB.out, h1, h2, h3])
  have HF := Lib.hid fin
  clear fin HB
  have two : Hid (kd = 3 ∨ kd ≠ 3) := Lib.hid (Classical.em _)
  by_cases hbk : bel = true ∧ kd ≠ 3
  ·obtain ⟨hbl, k3⟩ := hbk
   subst hbl
   have z3 : (kd == 3) = false := by simpa using k3
   have z4 : (kd != 3) = true := by simpa using k3
   have HE := Lib.hid (HF.out true _ _ (by simp [k3]) rfl rfl)
   clear k3 two HF
   go_wp2_with fail
   go_meet
   exact ⟨by rw [HE.out.out]; rfl, rfl⟩
  ·have HX : Hid ((bel && kd != 3) = false) := Lib.hid (by
    cases bel with
    | false => rfl
    | true => simp at hbk; simp [hbk])
   have zz : bel = false ∨ (bel = true ∧ (kd != 3) = false) := by
    cases bel with
    | false => exact .inl rfl
    | true => exact .inr ⟨rfl, by simpa using HX.out⟩
   clear hbk two
   by_cases d1 : 16 < place.length + pa.length
   ·have e1 : decide ((16 : Int) < (place.length : Int) + (pa.length : Int)) = true := by simp; omega
    have HE := Lib.hid (HF.out false true _ HX.out (by simpa using d1) rfl)
    clear d1 HF HX
    rcases zz with hz | ⟨hz, z4⟩
    all_goals
     subst hz
     go_wp2_with fail
     go_meet
     exact ⟨by rw [HE.out.out]; rfl, rfl⟩
   ·have e1 : decide ((16 : Int) < (place.length : Int) + (pa.length : Int)) = false := by simp; omega
    have HD1 : Hid (decide (16 < place.length + pa.length) = false) := Lib.hid (by simpa using d1)
    cases iv
    ·have HE := Lib.hid (HF.out false false false HX.out HD1.out rfl)
     clear d1 HF HX HD1
     rcases zz with hz | ⟨hz, z4⟩
     all_goals
      subst hz
      go_wp2_with fail
      go_meet
      exact ⟨by rw [HE.out.out]; rfl, rfl⟩
    ·by_cases d2 : 16 ≤ place.length + pa.length
     ·have e2 : decide ((16 : Int) ≤ (place.length : Int) + (pa.length : Int)) = true := by simp; omega
      have HE := Lib.hid (HF.out false false true HX.out HD1.out (by simpa using d2))
      clear d1 d2 HF HX HD1
      rcases zz with hz | ⟨hz, z4⟩
      all_goals
       subst hz
       go_wp2_with fail
       go_meet
       exact ⟨by rw [HE.out.out]; rfl, rfl⟩
     ·have e2 : decide ((16 : Int) ≤ (place.length : Int) + (pa.length : Int)) = false := by simp; omega
      have HE := Lib.hid (HF.out false false false HX.out HD1.out (by simpa using d2))
      clear d1 d2 HF HX HD1
      rcases zz with hz | ⟨hz, z4⟩
      all_goals
       subst hz
       go_wp2_with fail
       go_meet
       exact ⟨by rw [HE.out.out]; rfl, rfl⟩
 case rest =>
 obtain ⟨rfl, rfl⟩ := hcut
 cases bd
 rotate_left
 ·have HE : Hid (r = (.nil, (m, 4))) := Lib.hid (by rw [HR.out]; unfold loadN; rw [HBD.out]; rfl)
  have HW := Lib.hid (wrong_any l sp m 4 w2 HL2.out)
  go_wp2_with fail
  refine HW.out.mono ?_
  rintro e w3 ⟨rfl, hq⟩
  go_wp2_with fail
  go_ret
  rw [HE.out]
  exact ⟨none, rfl, ⟨hq.ldr, HM2.out.trans hq.mod⟩, .nil⟩
 have hcut2 : place.length + pa.length ≤ 16 ∧ (iv = true → place.length + pa.length < 16) := by
  have h := HB.out
  simp only [Bool.false_eq, Bool.or_eq_false_iff, decide_eq_false_iff_not, Bool.and_eq_false_iff] at h
  refine ⟨by omega, fun hi => ?_⟩
  rcases h.2 with h2 | h2
  ·rw [hi] at h2; cases h2
  ·omega
 have HC2 := Lib.hid hcut2
 obtain ⟨ob, hob⟩ : ∃ x, ownL ⟨kd, pa, va, kk⟩ place.length (m, 0) = x := ⟨_, rfl⟩
 have HOB := Lib.hid hob
 have hsum : ((place.length + pa.length : Nat) : Int) = (place.length : Int) + (pa.length : Int) := by omega
 have HI := Lib.hid (litem_any l sp m (by omega) (place.length + pa.length) (by omega) w2 HL2.out)
 rw [hsum] at HI
 clear hcut2 hob hsum HB
 go_upto_region 10 with fail
 go_cut [78] (fun s78 wx => s78 = .bool (!ob.1) ∧ Hid (Ldr wx l sp ob.2.1 ob.2.2) ∧ Hid (Mod [l] w2 wx))
 case first =>
  by_cases hv : va = []
  ·have HE : Hid (ob = (true, (m, 0))) := Lib.hid (by rw [← HOB.out]; simp [ownL, hv])
   subst hv
   go_wp2_with fail
   go_meet
   exact ⟨by rw [HE.out]; rfl, Lib.hid (by rw [HE.out]; exact HL2.out), Lib.hid (Mod.refl _ _)⟩
  ·have HE : Hid (ob = itemL (place.length + pa.length) (m, 0)) := Lib.hid (by rw [← HOB.out]; simp [ownL, hv])
   rw [← HE.out] at HI
   have v1 : va.isEmpty = false := by simpa using hv
   have v2 : (va == []) = false := by simpa using hv
   have v3 : (va != []) = true := by simpa using hv
   clear hv
   obtain ⟨ok, st⟩ := ob
   cases ok
   ·go_wp2_with fail
    refine HI.out.mono ?_
    rintro e w3 ⟨rfl, hq⟩
    go_wp2_with fail
    go_meet
    exact ⟨rfl, Lib.hid hq.ldr, Lib.hid hq.mod⟩
   ·go_wp2_with fail
    refine HI.out.mono ?_
    rintro e w3 ⟨rfl, hq⟩
    go_wp2_with fail
    go_meet
    exact ⟨rfl, Lib.hid hq.ldr, Lib.hid hq.mod⟩
 case rest =>
 obtain ⟨rfl, HL3, HM3⟩ := hcut
 clear HI
 obtain ⟨ok, m0, c0⟩ := ob
 have hm23 := HM3.out
 have n0 := hm23.keepC (show k9 ∉ [l] by simp; omega) n0
 have n1 := hm23.keepC (show k9 ∉ [l] by simp; omega) n1
 have N9 := N9.mod hm23 (show k9 ∉ [l] by simp; omega)
 have HMw := Lib.hid (HM2.out.trans hm23)
 have HL3 : Hid (Ldr _ l sp m0 c0) := HL3
 clear hm23 HM3 HM2 n2
 cases ok
 ·have HE : Hid (r = (.nil, (m0, c0))) := Lib.hid (by rw [HR.out]; unfold loadN; rw [HBD.out, if_neg (by simp), HOB.out, if_pos rfl])
  go_wp2_with fail
  go_ret
  rw [HE.out]
  exact ⟨none, rfl, ⟨HL3.out, HMw.out⟩, .nil⟩
 have hoi : c0 = 0 ∧ m0 ≤ 1024 ∧ m0 = m + ownN va := by
  have h := HOB.out
  unfold ownL at h
  by_cases hv : va = []
  ·rw [if_pos hv] at h
   injection h with _ h
   injection h with h1 h2
   exact ⟨h2.symm, by omega, by rw [← h1]; simp [ownN, hv]⟩
  ·rw [if_neg hv] at h
   obtain ⟨h1, h2, h3, h4⟩ := itemL_yes (by rw [h])
   rw [h] at h3
   injection h3 with h3 h5
   exact ⟨h5, by omega, by rw [h3]; simp [ownN, hv]⟩
 obtain ⟨rfl, hm0, hm0e⟩ := hoi
 have HRR : Hid (r = if (loopK (fun s' st' => loadK T f s' (atL ⟨kd, pa, va, kk⟩ place.length) (kd == 2) st') kk (m0, 0) 16).2.2 ≠ 0 then (.nil, (loopK (fun s' st' => loadK T f s' (atL ⟨kd, pa, va, kk⟩ place.length) (kd == 2) st') kk (m0, 0) 16).2) else (triOf ⟨kd, pa, va, kk⟩ (loopK (fun s' st' => loadK T f s' (atL ⟨kd, pa, va, kk⟩ place.length) (kd == 2) st') kk (m0, 0) 16).1, (loopK (fun s' st' => loadK T f s' (atL ⟨kd, pa, va, kk⟩ place.length) (kd == 2) st') kk (m0, 0) 16).2)) := Lib.hid (by
  rw [HR.out]; unfold loadN; rw [HBD.out, if_neg (by simp), HOB.out, if_neg (by simp)])
 clear HR HOB HBD HL2
 have hkw : w.heap.size ≤ k9 := hwk
 obtain ⟨w3, hw3⟩ : ∃ x, x = wc := ⟨_, rfl⟩
 subst hw3
 have hl9 := N9.lt
 go_wp2_with (first
  | (refine wpList_allocP rfl rfl ?_; intro m13 w4 hm13 B13 hb4)
  | (refine wpList_kidsArr rfl (.tmp 79) rfl rfl (N9.keep hb4) ?_)
  | fail)
 have hm13n : m13 ∉ [l] := by simp; omega
 have HM4 : Hid (Mod [l] w w4) := Lib.hid (HMw.out.grow (hb4.mono HMw.out.size))
 have HL4 := Lib.hid (HL3.out.keep hb4)
 have HN4 := Lib.hid (N9.keep hb4)
 have hk9n : k9 ∉ [l] := by simp; omega
 have hckk := HCK.out trivial
 have HKD : Hid (∀ i, i < 16 → (kk i).length ≤ 32) := Lib.hid (chk_kid hckk)
 have HFIT : Hid ((∃ i, i < 16 ∧ kk i ≠ []) → atL ⟨kd, pa, va, kk⟩ place.length ≤ 16 ∧ place.length < atL ⟨kd, pa, va, kk⟩ place.length) := Lib.hid (fit_at hckk HC2.out.1 (by rw [HIV.out]; exact HC2.out.2))
 obtain ⟨g, hg⟩ : ∃ g, g = (fun s' st' => loadK T f s' (atL ⟨kd, pa, va, kk⟩ place.length) (kd == 2) st') := ⟨_, rfl⟩
 rw [← hg] at HRR
 have HG : Hid (∀ s' st', g s' st' = loadK T f s' (atL ⟨kd, pa, va, kk⟩ place.length) (kd == 2) st') := Lib.hid (by intro s' st'; rw [hg])
 have HLP : Hid (∀ k, k ≤ 16 → LpOk (atL ⟨kd, pa, va, kk⟩ place.length) m0 kk k (loopK g kk (m0, 0) k)) := Lib.hid (by
  refine lp_all g (atL ⟨kd, pa, va, kk⟩ place.length) (kd == 2) kk m0 ?_ ?_
  ·intro s' st' h
   rw [HG.out]
   exact loadK_err T f _ _ _ _ h
  ·intro hex s' st' h
   rw [HG.out]
   have h1 := HFIT.out hex
   exact load_ok T f s' _ _ st' h1.1 (by omega) h)
 have HCK2 : Hid (chk kd pa va kk = true) := Lib.hid hckk
 clear hg hckk HCK HC2 HIV hb4 n0 n1 N9 HL3 HMw hwl HS2 HK2
 go_loopw [81] (fun s81 wr => ∃ (k : Nat) (ps : Ps), k ≤ 16 ∧ s81 = .int .i64 k ∧ Hid (Blk wr m13 (pk ps).toArray) ∧ Hid (∀ i, i < 16 → KAt wr ((loopK g kk (m0, 0) k).1 i) (ps i)) ∧ Hid (Ldr wr l sp (loopK g kk (m0, 0) k).2.1 (loopK g kk (m0, 0) k).2.2) ∧ Hid (Blk wr k9 (nd kd pa va kk).toArray) ∧ Hid (Mod [l] w wr)) (fun s81 _ => 16 - (intOf s81).toNat)
 case atStart => exact ⟨0, noP, by omega, rfl, Lib.hid B13, Lib.hid (kat_no _), HL4, HN4, HM4⟩
 case round =>
  obtain ⟨k, ps, hk16, rfl, HBk, HTk, HLk, HNk, HMk⟩ := hrel
  obtain ⟨wr, hwr⟩ := Mod.name HMk.out
  subst hwr
  clear HL4 HN4 HM4 B13
  by_cases hlt : k < 16
  ·have hlt' : (k : Int) < 16 := by omega
   have i0 : (0 : Int) ≤ (k : Int) ∧ (k : Int) < 16 := by omega
   have hki := kid_index kk k hlt
   by_cases he : kk k = []
   ·have HST : Hid (loopK g kk (m0, 0) (k + 1) = loopK g kk (m0, 0) k) := Lib.hid (by rw [loopK, if_pos he])
    rw [he] at hki
    clear he
    go_wp2_with fail
    exact ⟨⟨k + 1, ps, by omega, by go_num, HBk, by rw [HST.out]; exact HTk, by rw [HST.out]; exact HLk, HNk, HMk⟩, by simp [intOf]; omega⟩
   ·have HST : Hid (loopK g kk (m0, 0) (k + 1) = (updT (loopK g kk (m0, 0) k).1 k (g (kk k) (loopK g kk (m0, 0) k).2).1, (g (kk k) (loopK g kk (m0, 0) k).2).2)) := Lib.hid (by rw [loopK, if_neg he])
    obtain ⟨hat1, hat2⟩ := HFIT.out ⟨k, hlt, he⟩
    have hmk := fun h => ((HLP.out k hk16).many h).2 hm0
    have he1 : (kk k).isEmpty = false := by simpa using he
    have he2 : (kk k == []) = false := by simpa using he
    have hkl := HKD.out k hlt
    generalize loopK g kk (m0, 0) k = q at *
    have hgk := HG.out (kk k) q.2
    have hw8 : IntKind.u8.wrap (k : Int) = (k : Int) := by rw [IntKind.wrap_u8]; omega
    have hnl : ¬ 9223372036854775807 < List.length place + 1 := by omega
    have hnl2 : ¬ 9223372036854775807 < List.length place + List.length pa := by omega
    have hbA : Below wr.heap.size wr (wr.alloc (.cells #[.int .u8 (k : Int)] 5)) := Below.allocS (Below.refl _ _) _
    have HMA : Hid (Mod [l] w (wr.alloc (.cells #[.int .u8 (k : Int)] 5))) := Lib.hid (HMk.out.grow (hbA.mono HMk.out.size))
    have HLA := Lib.hid (HLk.out.keep hbA)
    have HC : Hid (∀ (pl' : Bs), pl'.length = atL ⟨kd, pa, va, kk⟩ place.length → Calls Tryz.prog 50 #[.pointer (some ⟨l, 0, none⟩), .string ⟨List.toArray (kk k)⟩, .string ⟨List.toArray pl'⟩, .bool (kd == 2)] (wr.alloc (.cells #[.int .u8 (k : Int)] 5)) (LdP (wr.alloc (.cells #[.int .u8 (k : Int)] 5)) l sp (g (kk k) q.2))) := Lib.hid (fun pl' hpl' => by
     have h := HIH.out (kk k) pl' (kd == 2) q.2.1 q.2.2 _ (by unfold maxLen; omega) (by omega) (by omega) hmk (HK.out.modl HL.out HMA.out) (HS.out.modl HL.out HMA.out) HLA.out
     rw [hpl'] at h
     rw [hgk]
     exact h)
    have n0 : wr.cell? ⟨k9, 0, none⟩ = some (.int .i64 kd) := HNk.out.cell 0
    have n1 : wr.cell? ⟨k9, 1, none⟩ = some (.string ⟨List.toArray pa⟩) := HNk.out.cell 1
    have hl9 := HNk.out.lt
    have HBA := Lib.hid (HBk.out.keep hbA)
    have HTA := Lib.hid (kat_keep hbA HTk.out)
    have HNA := Lib.hid (HNk.out.keep hbA)
    have hm13w : w.heap.size ≤ m13 := by omega
    clear hgk hmk he hkl hat1 hat2 HTk HBk HLk HNk hbA
    by_cases k2 : kd = 2
    ·have z2 : (kd == 2) = true := by simpa using k2
     have HC2 := Lib.hid (HC.out (place ++ pa) (by rw [List.length_append]; simp [atL, k2]))
     rw [z2] at HC2
     clear HC k2
     go_wp2_with fail
     refine HC2.out.mono ?_
     rintro e w6 ⟨p6, rfl, hq6, hK6⟩
     have B6 := HBA.out.mod hq6.mod hm13n
     have HT6 : Hid (∀ i, i < 16 → KAt w6 (q.1 i) (ps i)) := Lib.hid (fun i hi => KAt.modl HLA.out hq6.mod (HTA.out i hi))
     have HN6 : Hid (Blk w6 k9 (nd kd pa va kk).toArray) := Lib.hid (HNA.out.mod hq6.mod hk9n)
     have HM6 : Hid (Mod [l] w w6) := Lib.hid (HMA.out.trans hq6.mod)
     have HL6 : Hid (Ldr w6 l sp (g (kk k) q.2).2.1 (g (kk k) q.2).2.2) := Lib.hid hq6.ldr
     have hcell := pk_cell B6 k hlt
     have hfz := B6.froz k
     have hltm := B6.lt
     have HB6 : Hid (Blk (w6.setCell ⟨m13, k, none⟩ (ptV p6)) m13 (pk (updP ps k p6)).toArray) := Lib.hid (by have := B6.set k (ptV p6); rw [pk_set _ _ _ hlt] at this; exact this)
     have HT7 : Hid (∀ i, i < 16 → KAt (w6.setCell ⟨m13, k, none⟩ (ptV p6)) (updT q.1 k (g (kk k) q.2).1 i) (updP ps k p6 i)) := Lib.hid (kat_upd (kat_other B6 k (ptV p6) HT6.out) k (hK6.other B6 k (ptV p6)))
     have HL7 : Hid (Ldr (w6.setCell ⟨m13, k, none⟩ (ptV p6)) l sp (g (kk k) q.2).2.1 (g (kk k) q.2).2.2) := Lib.hid ⟨HL6.out.blk.other (a := ⟨m13, k, none⟩) (by show m13 ≠ l; omega) _, HL6.out.typ.at (Below.heap_setCell _ _ _ _ (by show l ≠ m13; omega))⟩
     have HN7 : Hid (Blk (w6.setCell ⟨m13, k, none⟩ (ptV p6)) k9 (nd kd pa va kk).toArray) := Lib.hid (HN6.out.other (a := ⟨m13, k, none⟩) (by show m13 ≠ k9; omega) _)
     have HM7 : Hid (Mod [l] w (w6.setCell ⟨m13, k, none⟩ (ptV p6))) := Lib.hid (HM6.out.setCell (.inr hm13w) _)
     clear B6 hq6 hK6 HT6 HN6 HM6 HL6 HBA HTA HNA HLA HMA
     cases p6
     ·rw [ptV_none] at HB6 HT7 HL7 HN7 HM7
      go_wp2_with fail
      exact ⟨⟨k + 1, updP ps k none, by omega, by go_num, HB6, by rw [HST.out]; exact HT7, by rw [HST.out]; exact HL7, HN7, HM7⟩, by simp [intOf]; omega⟩
     ·rename_i b6
      rw [ptV_some] at HB6 HT7 HL7 HN7 HM7
      go_wp2_with fail
      exact ⟨⟨k + 1, updP ps k (some b6), by omega, by go_num, HB6, by rw [HST.out]; exact HT7, by rw [HST.out]; exact HL7, HN7, HM7⟩, by simp [intOf]; omega⟩
    ·have z2 : (kd == 2) = false := by simpa using k2
     have HC2 := Lib.hid (HC.out (place ++ [UInt8.ofNat k]) (by rw [List.length_append]; simp [atL, k2]))
     rw [z2] at HC2
     clear HC k2
     go_wp2_with fail
     refine HC2.out.mono ?_
     rintro e w6 ⟨p6, rfl, hq6, hK6⟩
     have B6 := HBA.out.mod hq6.mod hm13n
     have HT6 : Hid (∀ i, i < 16 → KAt w6 (q.1 i) (ps i)) := Lib.hid (fun i hi => KAt.modl HLA.out hq6.mod (HTA.out i hi))
     have HN6 : Hid (Blk w6 k9 (nd kd pa va kk).toArray) := Lib.hid (HNA.out.mod hq6.mod hk9n)
     have HM6 : Hid (Mod [l] w w6) := Lib.hid (HMA.out.trans hq6.mod)
     have HL6 : Hid (Ldr w6 l sp (g (kk k) q.2).2.1 (g (kk k) q.2).2.2) := Lib.hid hq6.ldr
     have hcell := pk_cell B6 k hlt
     have hfz := B6.froz k
     have hltm := B6.lt
     have HB6 : Hid (Blk (w6.setCell ⟨m13, k, none⟩ (ptV p6)) m13 (pk (updP ps k p6)).toArray) := Lib.hid (by have := B6.set k (ptV p6); rw [pk_set _ _ _ hlt] at this; exact this)
     have HT7 : Hid (∀ i, i < 16 → KAt (w6.setCell ⟨m13, k, none⟩ (ptV p6)) (updT q.1 k (g (kk k) q.2).1 i) (updP ps k p6 i)) := Lib.hid (kat_upd (kat_other B6 k (ptV p6) HT6.out) k (hK6.other B6 k (ptV p6)))
     have HL7 : Hid (Ldr (w6.setCell ⟨m13, k, none⟩ (ptV p6)) l sp (g (kk k) q.2).2.1 (g (kk k) q.2).2.2) := Lib.hid ⟨HL6.out.blk.other (a := ⟨m13, k, none⟩) (by show m13 ≠ l; omega) _, HL6.out.typ.at (Below.heap_setCell _ _ _ _ (by show l ≠ m13; omega))⟩
     have HN7 : Hid (Blk (w6.setCell ⟨m13, k, none⟩ (ptV p6)) k9 (nd kd pa va kk).toArray) := Lib.hid (HN6.out.other (a := ⟨m13, k, none⟩) (by show m13 ≠ k9; omega) _)
     have HM7 : Hid (Mod [l] w (w6.setCell ⟨m13, k, none⟩ (ptV p6))) := Lib.hid (HM6.out.setCell (.inr hm13w) _)
     clear B6 hq6 hK6 HT6 HN6 HM6 HL6 HBA HTA HNA HLA HMA
     cases p6
     ·rw [ptV_none] at HB6 HT7 HL7 HN7 HM7
      go_wp2_with fail
      exact ⟨⟨k + 1, updP ps k none, by omega, by go_num, HB6, by rw [HST.out]; exact HT7, by rw [HST.out]; exact HL7, HN7, HM7⟩, by simp [intOf]; omega⟩
     ·rename_i b6
      rw [ptV_some] at HB6 HT7 HL7 HN7 HM7
      go_wp2_with fail
      exact ⟨⟨k + 1, updP ps k (some b6), by omega, by go_num, HB6, by rw [HST.out]; exact HT7, by rw [HST.out]; exact HL7, HN7, HM7⟩, by simp [intOf]; omega⟩
  ·have hke : k = 16 := by omega
   subst hke
   have HLP16 := Lib.hid (HLP.out 16 (Nat.le_refl _))
   generalize loopK g kk (m0, 0) 16 = q at *
   obtain ⟨K, m9, c9⟩ := q
   have c2 : wr.cell? ⟨l, 2, none⟩ = some (.int .i64 c9) := HLk.out.blk.cell 2
   by_cases hc9 : c9 = 0
   rotate_left
   ·have z1 : (c9 == 0) = false := by simpa using hc9
    have z2 : (c9 != 0) = true := by simpa using hc9
    have HE : Hid (r = (.nil, (m9, c9))) := Lib.hid (by rw [HRR.out]; simp [hc9])
    clear hc9
    go_wp2_with fail
    go_ret
    rw [HE.out]
    exact ⟨none, rfl, ⟨HLk.out, HMk.out⟩, .nil⟩
   subst hc9
   have HE : Hid (r = (triOf ⟨kd, pa, va, kk⟩ K, (m9, 0))) := Lib.hid (by rw [HRR.out]; simp)
   have hmd := tri_made (kd := kd) (pa := pa) (va := va) (kk := kk) HCK2.out (K := K) (fun i hi => HLP16.out.out i hi) (fun i hi => HLP16.out.no i hi)
   have HMD := Lib.hid hmd
   have HTD := Lib.hid (tiedK_any kd pa va (by omega) (kidF kk) K ps (fun i hi hn => by
    show kidF kk i = []
    simp only [kidF, hi, if_true]
    rcases Classical.em (kk i = []) with e | e
    ·exact e
    ·exact absurd hn (HLP16.out.ne rfl i hi e)) (fun i hi => by
    show kidF kk i = []
    simp only [kidF]
    rw [if_neg (by omega)]) wr (HK.out.modl HL.out HMk.out) HTk.out)
   rw [nd_kidF] at HTD
   have hNr := HNk.out
   have hBr := HBk.out
   clear hmd
   go_wp2_with (first
    | (refine wpList_node rfl (.tmp 9) rfl rfl hNr ?_)
    | (refine wpList_rowLoad row16p rfl (.tmp 13) rfl rfl (pk_len ps) hBr ?_)
    | fail)
   refine HTD.out.mono ?_
   rintro e w7 ⟨b7, rfl, hb7, hB7⟩
   go_wp2_with fail
   go_ret
   rw [HE.out]
   refine ⟨some b7, rfl, ⟨HLk.out.keep hb7, HMk.out.grow (hb7.mono HMk.out.size)⟩, ?_⟩
   obtain ⟨h1, h2, h3, h4, h5⟩ := HMD.out
   refine .knot _ b7 ps h5 (fun i hi => ?_) ?_
   ·rw [h4]; exact (HTk.out i hi).keep hb7
   ·rw [sumT_knot _ h5, rp_len _ h5]
    unfold textT
    rw [h1, h2, h3, h4]
    exact hB7
end Go.Proofs.YtjppbomngnomhaaGreatDoor
