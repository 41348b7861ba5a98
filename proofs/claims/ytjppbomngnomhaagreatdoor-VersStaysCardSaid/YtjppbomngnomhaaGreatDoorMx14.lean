/- StoreW, Keys, Sums, Unpack, Dec. -/
import Derived.Test.YtjppbomngnomhaaGreatDoorMx13
set_option linter.unnecessarySimpa false
set_option linter.unusedSimpArgs false
set_option linter.unusedVariables false
set_option maxRecDepth 100000
set_option maxHeartbeats 32000000
namespace Go.Proofs.YtjppbomngnomhaaGreatDoor
open Go.RowKit Go.WideMaps Go.Maps Go.Sort Pl
theorem zeroB (w : World) : (zeroValue 59).run Tryz.prog w = .ok nilV w := by
 have h : (Tryz.prog.info? 59).map (·.zero) = some (some nilV) := by kernel_rfl
 obtain ⟨i, hi, hz⟩ := Option.map_eq_some_iff.1 h
 simp [zeroValue, typeInfo, hi, hz]
section
variable {w : World} {base p b : Nat} {T : List Ent}
theorem mem_keys {T : List Ent} {k : Bs} : k ∈ keysE T ↔ ∃ t, (k, t) ∈ T := by
 unfold keysE
 rw [List.mem_map]
 constructor
 ·rintro ⟨⟨a, t⟩, h, rfl⟩; exact ⟨t, h⟩
 ·rintro ⟨t, h⟩; exact ⟨(k, t), h, rfl⟩
theorem Sto.look (h : Sto w base p b T) (k : Bs) (hk : k.length ≤ maxLen) :
  ∃ v, (Instr.lookup 84 (.map (some b)) (.string ⟨List.toArray k⟩) true).run Tryz.prog w = .ok (.tuple #[v, .bool (decide (k ∈ keysE T))]) w ∧ (∀ t, (k, t) ∈ T → BTx w base v t) ∧ (k ∉ keysE T → v = nilV) := by
 obtain ⟨D, ho, hD⟩ := h.own
 obtain ⟨v, ps, hrun, hv⟩ := ho.look_ok keyedS Tryz.underlying84 (zeroB w) (zd := .held nilV) (zp := []) rfl (keyS k hk)
 rw [hD.has] at hrun
 refine ⟨v, hrun, fun t ht => ?_, fun hn => ?_⟩
 ·obtain ⟨u, h1, h2⟩ := hD.val (k, t) ht
  rw [h1] at hv
  rw [hR_inv hv]
  exact h2
 ·rw [atKey_of_not_has (by rw [hD.has]; simpa using hn)] at hv
  exact hR_inv hv
theorem put_mem {T : List Ent} {t : Bs} (h : tagP 1 t ∈ keysE T) : putT T t = T := if_pos h
theorem put_new {T : List Ent} {t : Bs} (h : tagP 1 t ∉ keysE T) : putT T t = T ++ [(tagP 1 t, t)] := if_neg h
theorem StoD.put {D : DataW Value} (h : StoD w base D T) (hD : Tidy D) (k t : Bs) (v : Value) (hn : k ∉ keysE T) (hv : BTx w base v t) : StoD w base (D.put (.string k) (.held v)) (T ++ [(k, t)]) := by
 refine ⟨fun k' => ?_, fun e he => ?_, ?_, ?_⟩
 ·by_cases e : k' = k
  ·subst e
   rw [has_put_same hD.isMap (isKeyS k')]
   simp [keysE]
  ·rw [has_put_other (by intro h; injection h with h; exact e h), h.has, decide_eq_decide]
   unfold keysE
   rw [List.map_append, List.mem_append]
   simp [e]
 ·rcases List.mem_append.1 he with he | he
  ·obtain ⟨u, h1, h2⟩ := h.val e he
   have hne : e.1 ≠ k := fun h => hn (by rw [← h]; exact mem_keys.2 ⟨e.2, he⟩)
   exact ⟨u, by rw [atKey_put_other (by intro h; injection h with h; exact hne h)]; exact h1, h2⟩
  ·rw [List.mem_singleton] at he
   subst he
   exact ⟨v, by rw [atKey_put_same hD.isMap (isKeyS k)], hv⟩
 ·unfold keysE
  rw [List.map_append, List.nodup_append]
  refine ⟨h.nodup, by simp, fun a ha b hb e => ?_⟩
  simp only [List.map_cons, List.map_nil, List.mem_singleton] at hb
  subst hb e
  exact hn ha
 ·rw [size_put hD, h.has, if_neg (by simpa using hn), h.size, List.length_append]
  rfl
end
theorem snew_any (w : World) :
  Calls Tryz.prog 21 #[] w fun e w' => e = .returned (.pointer (some ⟨w.heap.size + 1, 0, none⟩)) ∧ Sto w' w.heap.size (w.heap.size + 1) w.heap.size [] ∧ Below w.heap.size w w' := by
 have hmm := @run_makeMap Tryz.prog
 have hown : (w.alloc (.map #[] 0)).ownsMap (H := Value) Tryz.prog 9 hR w.heap.size 0 (.map []) := World.ownsMap_made _ _ _ _
 go_enter Tryz.func21, Tryz.ntmps21
 go_wp2_with fail
 go_ret
 refine ⟨rfl, ⟨by omega, Nat.le_refl _, ?_, by simp, _, hown.alloc _, ?_⟩, ?_⟩
 ·have := heap_alloc_new (w.alloc (.map #[] 0)) (.cells #[.map (some w.heap.size)] 86)
  simpa using this
 ·exact ⟨fun k => (by rw [has_eq]; simp [keysE]), fun e he => (by cases he), (by simp [keysE]), rfl⟩
 ·exact Below.allocS ((Below.refl _ _).alloc (Nat.le_refl _) _) _
theorem sput_any (base p b : Nat) (T : List Ent) (t : Bs) (ht : t.length ≤ 1000) (hT : T.length ≤ 100000) (w : World) (hk : KT w) (h : Sto w base p b T) :
  Calls Tryz.prog 37 #[.pointer (some ⟨p, 0, none⟩), .string ⟨List.toArray t⟩] w fun e w' => e = .returned (.string ⟨List.toArray (tagP 1 t)⟩) ∧ Sto w' base p b (putT T t) ∧ w.grownBy w' (some b) := by
 have hds := digsum_ok 1 (by omega) (by omega) t (by omega) w hk
 have hkl : (tagP 1 t).length ≤ maxLen := by rw [tagP_len]; unfold maxLen; omega
 have HP : Hid (tagP 1 t ∈ keysE T → putT T t = T) := Lib.hid put_mem
 have HQ : Hid (tagP 1 t ∉ keysE T → putT T t = T ++ [(tagP 1 t, t)]) := Lib.hid put_new
 have HT := Lib.hid ht
 generalize tagP 1 t = s at *
 generalize putT T t = T' at *
 have HS := Lib.hid h
 clear h ht
 go_enter Tryz.func37, Tryz.ntmps37
 go_wp2_with fail
 refine hds.mono ?_
 rintro e w1 ⟨rfl, hb⟩
 have h1 := HS.out.keep hb
 have hlk := h1.look s hkl
 obtain ⟨v, hrun, hv1, hv2⟩ := hlk
 obtain ⟨b1, b2, b3⟩ := id h1.blk
 by_cases hin : s ∈ keysE T
 ·rw [show decide (s ∈ keysE T) = true from by simpa using hin] at hrun
  clear hv1 hv2
  go_wp2_with fail
  all_goals (go_ret; exact ⟨rfl, by rw [HP.out hin]; exact h1, ⟨hb.os, hb.tape, hb.output, hb.size, fun k hk _ => hb.block k hk⟩⟩)
 ·rw [show decide (s ∈ keysE T) = false from by simpa using hin] at hrun
  obtain rfl := hv2 hin
  clear hv1 hv2
  obtain ⟨D, ho, hD⟩ := h1.own
  have htd := ho.tidy keyedS
  have hblt := ho.lt
  clear h1
  have HB := Lib.hid hb
  clear hb
  go_wp2_with (refine wpList_convT rfl (.tmp 30) rfl t rfl (by have := HT.out; unfold maxLen; omega) ?_; intro u w2 hu hb02; have ho2 := ownsMap_at ho (hb02.block b hblt); obtain ⟨w3, hrun3, ho3, hg3⟩ := ho2.update keyedS Tryz.underlying84 (by unfold maxLen; omega) (keyS s hkl) (show hR u = some (.held u, []) from rfl))
  go_ret
  have hS1 := HS.out.keep HB.out
  have hS2 := hS1.keep hb02
  have hnb : ∀ g c fz, w2.heap[g]? = some (Obj.cells c 5 fz) → some g ≠ some b := by
   intro g c fz hg e
   injection e with e
   subst e
   obtain ⟨es, cl, hm, _⟩ := ho2
   rw [hm] at hg
   cases hg
  have hpb : some p ≠ some b := by
   intro e
   injection e with e
   subst e
   obtain ⟨es, cl, hm, _⟩ := ho2
   have := hS2.cell
   rw [hm] at this
   cases this
  have hD2 : StoD w2 base D T := hD.kept hb02.size (fun g c fz hg => hb02.block g (stok_lt (.inr (.inl ⟨c, fz, hg⟩))))
  have hD3 := (hD2.put htd s t u hin (by
   obtain ⟨g, cap, c, fz, q1, q2, q3⟩ := hu
   exact ⟨g, cap, c, fz, q1, Nat.le_trans (Nat.le_trans HS.out.hp (Nat.le_of_lt HS.out.lt)) (Nat.le_trans HB.out.size q2), q3⟩)).kept hg3.size (fun g c fz hg => hg3.block g (stok_lt (.inr (.inl ⟨c, fz, hg⟩))) (hnb g c fz hg))
  refine ⟨rfl, ?_, ?_⟩
  ·rw [HQ.out hin]
   refine ⟨hS2.hp, hS2.hb, (hg3.block p hS2.lt hpb).trans hS2.cell, by have := hS2.lt; have := hg3.size; omega, _, ?_, hD3⟩
   rw [List.length_append]
   exact ho3
  ·have h1 := HB.out
   refine ⟨hg3.os.trans (hb02.os.trans h1.os), hg3.tape.trans (hb02.tape.trans h1.tape), hg3.output.trans (hb02.output.trans h1.output), Nat.le_trans h1.size (Nat.le_trans hb02.size hg3.size), fun k hk hne => ?_⟩
   rw [hg3.block k (by have := h1.size; have := hb02.size; omega) hne, hb02.block k (by have := h1.size; omega), h1.block k hk]
theorem get_of {T : List Ent} (hn : (keysE T).Nodup) {k t : Bs} (h : (k, t) ∈ T) : getT T k = some t := get_some hn h
theorem Sto.nodup {w : World} {base p b : Nat} {T : List Ent} (h : Sto w base p b T) : (keysE T).Nodup := by
 obtain ⟨D, _, hD⟩ := h.own
 exact hD.nodup
theorem sget_any (base p b : Nat) (T : List Ent) (k : Bs) (hk : k.length ≤ maxLen) (w : World) (h : Sto w base p b T) :
  Calls Tryz.prog 89 #[.pointer (some ⟨p, 0, none⟩), .string ⟨List.toArray k⟩] w fun e w' => e = .returned (.tuple #[.string ⟨List.toArray ((getT T k).getD [])⟩, .bool (decide (k ∈ keysE T))]) ∧ Below w.heap.size w w' := by
 obtain ⟨v, hrun, hv1, hv2⟩ := h.look k hk
 have hconv : (convert 59 9 v).run Tryz.prog w = .ok (.string ⟨List.toArray ((getT T k).getD [])⟩) w := by
  by_cases hin : k ∈ keysE T
  ·obtain ⟨t, ht⟩ := mem_keys.1 hin
   rw [get_of h.nodup ht]
   exact (hv1 t ht).conv
  ·rw [hv2 hin, get_none hin]
   exact run_convert_bytes_nil w 59 5 Tryz.underlying59 Tryz.underlying5 0 0 9 Tryz.underlying9
 generalize decide (k ∈ keysE T) = q at *
 generalize (getT T k).getD [] = s at *
 obtain ⟨b1, b2, b3⟩ := id h.blk
 clear hv1 hv2 h
 go_enter Tryz.func89, Tryz.ntmps89
 go_wp2_with fail
 all_goals (go_ret2; exact ⟨rfl, Below.refl _ _⟩)
end Go.Proofs.YtjppbomngnomhaaGreatDoor
namespace Go.Proofs.YtjppbomngnomhaaGreatDoor
open Go.RowKit Go.WideMaps Go.Maps Go.Sort Go.Shelf Pl
theorem sortsM (m : Nat) : AnyZ.SortsIn Tryz.prog sortedS_ren Fence.wide m :=
 ⟨fun blk off cap ss W hH hblk hsz => callsIn_wide.2 (AnyM.slices_Sort_string sortM blk off cap ss W hH hblk hsz),
  fun p cap W => callsIn_wide.2 (AnyM.slices_Sort_string_none sortM p cap W)⟩
theorem keysB_any (mb : Option Nat) (W : World) : Calls Tryz.prog 55 #[.map mb] W fun e w' => e = .returned (.func (.func 76) #[] #[.pointer (some ⟨W.heap.size, 0, none⟩)]) ∧ w' = W.alloc (.cells #[.map mb] 84) :=
 (callsIn_wide (n := 5)).1 (AnyZ.keys_in keysB Fence.wide 5 trivial rfl mb W)
theorem sortedB_any {H : Type} (b nn : Nat) (D0 : DataW H) (R : Value → Option (DataW H × List MemPlace)) (w : World) (hown : w.ownsMap Tryz.prog 9 R b nn D0) (hmax : Maps.size D0 ≤ 1000000) :
  Calls Tryz.prog 54 #[.func (.func 76) #[] #[.pointer (some ⟨w.heap.size, 0, none⟩)]] (w.alloc (.cells #[.map (some b)] 84)) fun e w' => ∃ v, e = .returned v ∧ SRow w' w.heap.size v ((strKeys D0).mergeSort (fun x y => decide (x ≤ y))) ∧ Below w.heap.size (w.alloc (.cells #[.map (some b)] 84)) w' := by
 have hbl := hown.lt
 have hseq : SeqGives Fence.wide 2 Tryz.prog 76 #[.pointer (some ⟨w.heap.size, 0, none⟩)] encStr (fun ss => ss.Perm (strKeys D0)) (Maps.size D0) (w.alloc (.cells #[.map (some b)] 84)) :=
  AnyZ.keys_gives (ρ := keysB_ren) { keysB with } Fence.wide _ trivial rfl (by omega) w.heap.size b nn D0 _ (by simp) (by simp) (by
   obtain ⟨es, clock, hb, Ft, hs, hD⟩ := hown
   exact ⟨es, clock, (Below.heap_alloc _ _ b hbl).trans hb, Ft, hs, hD⟩)
 have h := (callsIn_wide (n := 5)).1 (AnyZ.sorted_in sortedS Fence.wide 5 trivial trivial trivial trivial rfl (by omega) (sortsM _) (enters_of Tryz.func75 (by kernel_rfl) rfl) 76 #[.pointer (some ⟨w.heap.size, 0, none⟩)] trivial (enters_of Tryz.func76 (by kernel_rfl) rfl) _ _ (by unfold maxLen; omega) (by omega) _ hseq)
 refine h.mono ?_
 rintro e w' ⟨v, ss, rfl, hp, hrow, _, hb⟩
 refine ⟨v, rfl, ?_, hb.mono (by simp)⟩
 rw [mergeSort_of_perm hp] at hrow
 have hl : ss.length = ((strKeys D0).mergeSort (fun x y => decide (x ≤ y))).length := by rw [List.length_mergeSort, hp.length_eq]
 rw [hl] at hrow
 exact SRow.low (show SRow w' _ v _ from hrow) (by simp)
end Go.Proofs.YtjppbomngnomhaaGreatDoor
namespace Go.Proofs.YtjppbomngnomhaaGreatDoor
open Go.RowKit Go.WideMaps Go.Maps Go.Sort Pl
theorem keys_perm {H : Type} {w : World} {R : Value → Option (DataW H × List MemPlace)} {b n : Nat} {D : DataW H} {ss : List Bs} (ho : w.ownsMap Tryz.prog 9 R b n D) (hn : ss.Nodup) (hm : ∀ k : Bs, Maps.has D (.string k) = decide (k ∈ ss)) : ss.Perm (strKeys D) :=
 Collected.perm (left := fun _ => false) ⟨hn, fun x => by simp [hm]⟩ ho keyedS Tryz.underlying9 (fun _ => rfl)
def sortB (l : List Bs) : List Bs := l.mergeSort (fun x y => decide (x ≤ y))
theorem sortB_perm (l : List Bs) : (sortB l).Perm l := List.mergeSort_perm _ _
theorem sortB_of {l m : List Bs} (h : l.Perm m) : sortB l = sortB m := mergeSort_of_perm h
theorem ssums_any (base p b : Nat) (T : List Ent) (hT : T.length ≤ 100000) (w : World) (h : Sto w base p b T) :
  Calls Tryz.prog 36 #[.pointer (some ⟨p, 0, none⟩)] w fun e w' => ∃ v, e = .returned v ∧ SRow w' w.heap.size v (sortB (keysE T)) ∧ Below w.heap.size w w' := by
 obtain ⟨D, ho, hD⟩ := h.own
 have hkb := keysB_any (some b)
 have hso := sortedB_any b _ D hR w ho (by rw [hD.size]; omega)
 have hp : sortB (strKeys D) = sortB (keysE T) := (sortB_of (keys_perm ho hD.nodup hD.has)).symm
 rw [show (strKeys D).mergeSort (fun x y => decide (x ≤ y)) = sortB (keysE T) from hp] at hso
 generalize sortB (keysE T) = L at *
 obtain ⟨b1, b2, b3⟩ := id h.blk
 clear h ho hD hp
 go_enter Tryz.func36, Tryz.ntmps36
 go_wp2_with fail
 refine (hkb _).mono ?_
 rintro e w1 ⟨rfl, rfl⟩
 go_wp2_with fail
 refine hso.mono ?_
 rintro e w2 ⟨v, rfl, hr, hb⟩
 go_wp2_with fail
 go_ret
 exact ⟨v, rfl, hr, (Below.allocS (Below.refl _ _) _).trans hb⟩
end Go.Proofs.YtjppbomngnomhaaGreatDoor
namespace Go.Proofs.YtjppbomngnomhaaGreatDoor
open Go.RowKit Pl
theorem nunpack_nil (w : World) :
  Calls Tryz.prog 130 #[.string ⟨List.toArray []⟩] w fun e w' => e = .returned (.tuple #[.string ⟨List.toArray []⟩, .bool false, .int .i64 3]) ∧ Below w.heap.size w w' := by
 go_enter Tryz.func130, Tryz.ntmps130
 go_wp2_with fail
 go_ret3
 exact ⟨rfl, Below.refl _ _⟩
theorem and1 (k : Nat) (h : k < 256) : bits .and .u8 (k : Int) 1 = ((k % 2 : Nat) : Int) := by
 have h' := u8_and_nat k 1 h (by omega)
 rw [Nat.and_one_is_mod] at h'
 exact h'
theorem and2 (k : Nat) (h : k < 4) : bits .and .u8 (k : Int) 2 = if k < 2 then 0 else 2 := by
 have h' := u8_and_nat k 2 (by omega) (by omega)
 have h3 : ∀ k < 4, k &&& 2 = if k < 2 then 0 else 2 := by decide
 rw [h3 k h] at h'
 rw [show ((2 : Nat) : Int) = 2 from rfl] at h'
 rw [h']
 split <;> rfl
theorem nunpack_cons (c : UInt8) (r : Bs) (hs : r.length ≤ 35184372088000) (w : World) :
  Calls Tryz.prog 130 #[.string ⟨List.toArray (c :: r)⟩] w fun e w' => e = .returned (.tuple #[.string ⟨List.toArray ((unpack (c :: r)).1)⟩, .bool (unpack (c :: r)).2.1, .int .i64 ((unpack (c :: r)).2.2)]) ∧ Below w.heap.size w w' := by
 have hcl := c.toNat_lt
 have h15 := u8_and15 c.toNat hcl
 generalize hk : c.toNat / 16 = k
 generalize hf : c.toNat % 16 = f at h15
 have hck : ((c.toNat : Int) / 16) = (k : Int) := by omega
 have hk16 : k < 16 := by omega
 have h1 := and1 k (by omega)
 have HU : Hid (unpack (c :: r) = if 3 < k ∨ (k % 2 = 0 ∧ f ≠ 0) then ([], false, 3)
  else ((if k % 2 = 1 then UInt8.ofNat f :: ofP r else ofP r), decide (2 ≤ k), 0)) := Lib.hid (by simp only [unpack, hk, hf])
 have hfl : f < 16 := by omega
 clear hk hf
 by_cases h3 : 3 < k
 ·rw [show unpack (c :: r) = ([], false, 3) from by rw [HU.out, if_pos (.inl h3)]]
  have h3' : (3 : Int) < (k : Int) := by omega
  go_enter Tryz.func130, Tryz.ntmps130
  go_wp2_with fail
  go_quiet (fail)
  go_wp2_with fail
  all_goals go_ret3
  all_goals exact ⟨rfl, by (repeat (first | exact Below.refl _ _ | assumption | apply Below.drew | apply below_drewN | apply Below.allocS | (refine Below.setCell ?_ (by simp <;> omega) _) | (refine Below.alloc ?_ (by simp <;> omega) _) | (refine Below.trans ?_ (Below.mono (by assumption) (by simp <;> omega)))))⟩
 have h3' : ¬ (3 : Int) < (k : Int) := by omega
 have h2 := and2 k (by omega)
 have hl := ofP_len r
 by_cases ho : k % 2 = 1
 ·have hcat : ¬ 9223372036854775807 < 1 + (ofP r).length := by omega
  rw [ho] at h1
  have hfn : (f : Int).toNat = f := by omega
  have HL := Lib.hid hl
  clear hl
  by_cases hk2 : k < 2
  ·rw [if_pos hk2] at h2
   rw [show unpack (c :: r) = (UInt8.ofNat f :: ofP r, false, 0) from by
    rw [HU.out, if_neg (by omega), if_pos ho]; simp; omega]
   have HO := Lib.hid ho
   clear ho
   go_enter Tryz.func130, Tryz.ntmps130
   go_wp2_with fail
   go_quiet (fail)
   go_wp2_with fail
   refine (nof_any r (by omega) _).mono ?_
   rintro e w1 ⟨rfl, hb⟩
   go_wp2_with fail
   go_ret3
   exact ⟨rfl, by (repeat (first | exact Below.refl _ _ | assumption | apply Below.drew | apply below_drewN | apply Below.allocS | (refine Below.setCell ?_ (by simp <;> omega) _) | (refine Below.alloc ?_ (by simp <;> omega) _) | (refine Below.trans ?_ (Below.mono (by assumption) (by simp <;> omega)))))⟩
  ·rw [if_neg hk2] at h2
   rw [show unpack (c :: r) = (UInt8.ofNat f :: ofP r, true, 0) from by
    rw [HU.out, if_neg (by omega), if_pos ho]; simp; omega]
   have HO := Lib.hid ho
   clear ho
   go_enter Tryz.func130, Tryz.ntmps130
   go_wp2_with fail
   go_quiet (fail)
   go_wp2_with fail
   refine (nof_any r (by omega) _).mono ?_
   rintro e w1 ⟨rfl, hb⟩
   go_wp2_with fail
   go_ret3
   exact ⟨rfl, by (repeat (first | exact Below.refl _ _ | assumption | apply Below.drew | apply below_drewN | apply Below.allocS | (refine Below.setCell ?_ (by simp <;> omega) _) | (refine Below.alloc ?_ (by simp <;> omega) _) | (refine Below.trans ?_ (Below.mono (by assumption) (by simp <;> omega)))))⟩
 ·have ho' : k % 2 = 0 := by omega
  rw [ho'] at h1
  have HL := Lib.hid hl
  clear hl
  by_cases hf0 : f = 0
  ·subst hf0
   by_cases hk2 : k < 2
   ·rw [if_pos hk2] at h2
    rw [show unpack (c :: r) = (ofP r, false, 0) from by
     rw [HU.out, if_neg (by omega), if_neg ho]; simp; omega]
    clear ho ho'
    go_enter Tryz.func130, Tryz.ntmps130
    go_wp2_with fail
    go_quiet (fail)
    go_wp2_with fail
    refine (nof_any r (by omega) _).mono ?_
    rintro e w1 ⟨rfl, hb⟩
    go_wp2_with fail
    go_ret3
    exact ⟨rfl, by (repeat (first | exact Below.refl _ _ | assumption | apply Below.drew | apply below_drewN | apply Below.allocS | (refine Below.setCell ?_ (by simp <;> omega) _) | (refine Below.alloc ?_ (by simp <;> omega) _) | (refine Below.trans ?_ (Below.mono (by assumption) (by simp <;> omega)))))⟩
   ·rw [if_neg hk2] at h2
    rw [show unpack (c :: r) = (ofP r, true, 0) from by
     rw [HU.out, if_neg (by omega), if_neg ho]; simp; omega]
    clear ho ho'
    go_enter Tryz.func130, Tryz.ntmps130
    go_wp2_with fail
    go_quiet (fail)
    go_wp2_with fail
    refine (nof_any r (by omega) _).mono ?_
    rintro e w1 ⟨rfl, hb⟩
    go_wp2_with fail
    go_ret3
    exact ⟨rfl, by (repeat (first | exact Below.refl _ _ | assumption | apply Below.drew | apply below_drewN | apply Below.allocS | (refine Below.setCell ?_ (by simp <;> omega) _) | (refine Below.alloc ?_ (by simp <;> omega) _) | (refine Below.trans ?_ (Below.mono (by assumption) (by simp <;> omega)))))⟩
  ·rw [show unpack (c :: r) = ([], false, 3) from by rw [HU.out, if_pos (.inr ⟨ho', hf0⟩)]]
   have hf1 : ((f : Int) == 0) = false := by simpa using hf0
   have hf2 : ((f : Int) != 0) = true := by simpa using hf0
   clear ho ho'
   go_enter Tryz.func130, Tryz.ntmps130
   go_wp2_with fail
   go_quiet (fail)
   go_wp2_with fail
   all_goals go_ret3
   all_goals exact ⟨rfl, by (repeat (first | exact Below.refl _ _ | assumption | apply Below.drew | apply below_drewN | apply Below.allocS | (refine Below.setCell ?_ (by simp <;> omega) _) | (refine Below.alloc ?_ (by simp <;> omega) _) | (refine Below.trans ?_ (Below.mono (by assumption) (by simp <;> omega)))))⟩
theorem nunpack_any (s : Bs) (hs : s.length ≤ 35184372088000) (w : World) :
  Calls Tryz.prog 130 #[.string ⟨List.toArray s⟩] w fun e w' => e = .returned (.tuple #[.string ⟨List.toArray ((unpack s).1)⟩, .bool (unpack s).2.1, .int .i64 ((unpack s).2.2)]) ∧ Below w.heap.size w w' := by
 cases s with
 | nil => exact nunpack_nil w
 | cons c r => exact nunpack_cons c r (by simp at hs; omega) w
end Go.Proofs.YtjppbomngnomhaaGreatDoor
namespace Go.Proofs.YtjppbomngnomhaaGreatDoor
open Go.RowKit Pl
theorem ka_upd (kid : Nat → Bs) (k : Nat) (hk : k < 16) (x : Bs) : (ka kid).set k (.string ⟨List.toArray x⟩) = ka (upd kid k x) := by
 unfold ka kidL
 apply List.ext_getElem (by simp)
 intro i h1 h2
 simp [List.getElem_set, upd]
 by_cases h : k = i
 ·subst h; simp
 ·rw [if_neg h, if_neg (fun e => h e.symm)]
theorem nd_setk (kind : Int) (path val : Bs) (kid : Nat → Bs) (k : Nat) (hk : k < 16) (x : Bs) : (nd kind path val kid).toArray.setIfInBounds (3 + k) (.string ⟨List.toArray x⟩) = (nd kind path val (upd kid k x)).toArray := by
 apply Array.ext'
 rw [Array.toList_setIfInBounds]
 show List.set _ _ _ = _
 rw [Nat.add_comm]
 simp only [nd, List.set_cons_succ, ka_upd kid k hk x]
theorem nd_set0 (kind : Int) (path val : Bs) (kid : Nat → Bs) (x : Int) : (nd kind path val kid).toArray.setIfInBounds 0 (.int .i64 x) = (nd x path val kid).toArray := rfl
theorem nd_set1 (kind : Int) (path val : Bs) (kid : Nat → Bs) (x : Bs) : (nd kind path val kid).toArray.setIfInBounds 1 (.string ⟨List.toArray x⟩) = (nd kind x val kid).toArray := rfl
theorem nd_set2 (kind : Int) (path val : Bs) (kid : Nat → Bs) (x : Bs) : (nd kind path val kid).toArray.setIfInBounds 2 (.string ⟨List.toArray x⟩) = (nd kind path x kid).toArray := rfl
theorem branch_short (s : Bs) (kind : Int) (path val : Bs) (kid : Nat → Bs) (p q : Nat) (hpq : p ≠ q) (w : World) (hs : s.length < 2) (R : Rdr w p s 0) (B : Blk w q (nd kind path val kid).toArray) :
  Calls Tryz.prog 108 #[.pointer (some ⟨p, 0, none⟩), .pointer (some ⟨q, 0, none⟩)] w fun e w' => e = .returned (.tuple #[]) ∧ Rdr w' p s 20 ∧ Blk w' q (nd kind path val kid).toArray ∧ Mod [p, q] w w' := by
 go_enter Tryz.func108, Tryz.ntmps108
 go_wp2_with fail
 refine (bytes_any s 0 2 p _ (by omega) R).mono ?_
 rw [show mBytes s 0 2 = ([], s, 20) from by unfold mBytes; rw [if_neg (by simp), if_neg (by omega), if_pos (by omega)]]
 rintro e w1 ⟨rfl, R1, m1⟩
 go_wp2_with fail
 refine bodyPost_ret (results_none rfl _ _ _) rfl ?_
 exact ⟨rfl, R1, B.mod m1 (by simpa using fun h => hpq h.symm), m1.sub (by simp)⟩
theorem branch_long (a b : UInt8) (r : Bs) (kind : Int) (path val : Bs) (p q : Nat) (hpq : p ≠ q) (w : World) (R : Rdr w p (a :: b :: r) 0) (B : Blk w q (nd kind path val noK).toArray) :
  Calls Tryz.prog 108 #[.pointer (some ⟨p, 0, none⟩), .pointer (some ⟨q, 0, none⟩)] w fun e w' => e = .returned (.tuple #[]) ∧
   Rdr w' p (mText (rdKids (a.toNat * 256 + b.toNat) r 0 16).2.1 (rdKids (a.toNat * 256 + b.toNat) r 0 16).2.2 32).2.1 (mText (rdKids (a.toNat * 256 + b.toNat) r 0 16).2.1 (rdKids (a.toNat * 256 + b.toNat) r 0 16).2.2 32).2.2 ∧
   Blk w' q (nd kind path ((mText (rdKids (a.toNat * 256 + b.toNat) r 0 16).2.1 (rdKids (a.toNat * 256 + b.toNat) r 0 16).2.2 32).1) ((rdKids (a.toNat * 256 + b.toNat) r 0 16).1)).toArray ∧ Mod [p, q] w w' := by
 have hal := a.toNat_lt
 have hbl := b.toNat_lt
 have hqp : q ∉ [p] := by simpa using fun h => hpq h.symm
 generalize hset : a.toNat * 256 + b.toNat = set
 have hset2 : bits .or .i64 ((a.toNat : Int) * 256) (b.toNat : Int) = (set : Int) := by
  rw [i64_or_byte _ _ (by omega) (by omega)]; omega
 have hsl : set < 65536 := by omega
 have HS := Lib.hid hset
 clear hset
 go_enter Tryz.func108, Tryz.ntmps108
 go_wp2_with fail
 refine (bytes_any (a :: b :: r) 0 2 p _ (by omega) R).mono ?_
 rw [show mBytes (a :: b :: r) 0 2 = ([a, b], r, 0) from by unfold mBytes; rw [if_neg (by simp), if_neg (by omega), if_neg (by simp; omega)]; simp]
 rintro e w1 ⟨rfl, R1, m1⟩
 go_wp2_with fail
 go_quiet (fail)
 go_wp2_with fail
 have hB1 := B.mod m1 (by simpa using fun h => hpq h.symm)
 have hm1 : Mod [p, q] w w1 := m1.sub (by simp)
 clear m1 R B
 go_loopw [19] (fun s19 wr => ∃ k : Nat, k ≤ 16 ∧ s19 = .int .i64 k ∧ Rdr wr p (rdKids set r 0 k).2.1 (rdKids set r 0 k).2.2 ∧ Blk wr q (nd kind path val ((rdKids set r 0 k).1)).toArray ∧ Mod [p, q] w wr) (fun s19 _ => 16 - (intOf s19).toNat)
 case atStart => exact ⟨0, by omega, rfl, R1.drewN _, hB1.drewN _, hm1.drewN _⟩
 case round =>
  obtain ⟨k, hk, rfl, R2, B2, m2⟩ := hrel
  rename_i wr
  by_cases hlt : k < 16
  ·have hlt' : (k : Int) < 16 := by omega
   have hand : bits .and .i64 ((set : Int) / 2 ^ (15 - k)) 1 = ((set / 2 ^ (15 - k) % 2 : Nat) : Int) := by
    have h := i64_and_nat (set / 2 ^ (15 - k)) 1 (Nat.lt_of_le_of_lt (Nat.div_le_self _ _) (by omega)) (by omega)
    rw [Nat.and_one_is_mod] at h
    simpa using h
   by_cases hbit : set / 2 ^ (15 - k) % 2 = 1
   ·rw [hbit] at hand
    have HK : Hid (rdKids set r 0 (k + 1) = (upd (rdKids set r 0 k).1 k (mBytes (rdKids set r 0 k).2.1 (rdKids set r 0 k).2.2 32).1, (mBytes (rdKids set r 0 k).2.1 (rdKids set r 0 k).2.2 32).2)) := Lib.hid (by rw [rdKids, if_pos hbit])
    obtain ⟨b1, b2, b3⟩ := id B2
    generalize rdKids set r 0 k = st at *
    clear hbit
    go_wp2_with fail
    go_region_with (go_at_call 107; refine (bytes_any st.2.1 st.2.2 32 p _ (by omega) ?hR).mono ?_; (case hR => first | exact R2 | exact R2.drew | exact R2.drewN _); rintro e w' ⟨rfl, R3, m3⟩; have B3 := B2.drew.mod m3 hqp; have hck := blk_kid B3 k hlt; have c2 := B3.froz; have c3 := B3.lt)
    all_goals go_wp2_with fail
    all_goals
     have B4 := B3.set (3 + k) (.string ⟨List.toArray ((mBytes st.2.1 st.2.2 32).1)⟩)
     rw [nd_setk _ _ _ _ _ hlt] at B4
     exact ⟨⟨k + 1, by omega, by go_num, by rw [HK.out]; exact R3.other (by simpa using fun h => hpq h.symm) _, by rw [HK.out]; exact B4, (m2.drew.call m3 (by simp)).setCell (.inl (by simp)) _⟩, by simp [intOf]; omega⟩
   ·have hbit0 : set / 2 ^ (15 - k) % 2 = 0 := by omega
    rw [hbit0] at hand
    have HK : Hid (rdKids set r 0 (k + 1) = rdKids set r 0 k) := Lib.hid (by rw [rdKids, if_neg hbit])
    go_wp2_with fail
    exact ⟨⟨k + 1, by omega, by go_num, by rw [HK.out]; exact R2, by rw [HK.out]; exact B2, m2⟩, by simp [intOf]; omega⟩
  ·have hke : k = 16 := by omega
   subst hke
   go_wp2_with fail
   refine (rtext_any _ _ 32 p _ R2).mono ?_
   rintro e w2 ⟨rfl, R3, m3⟩
   have B3 := B2.mod m3 (by simpa using fun h => hpq h.symm)
   obtain ⟨b1, b2, b3⟩ := id B3
   go_wp2_with fail
   refine bodyPost_end (results_none rfl _ _ _) rfl ?_
   have B4 := B3.set 2 (.string ⟨List.toArray ((mText (rdKids set r 0 16).2.1 (rdKids set r 0 16).2.2 32).1)⟩)
   rw [nd_set2] at B4
   exact ⟨rfl, R3.other (by simpa using fun h => hpq h.symm) _, B4, (m2.call m3 (by simp)).setCell (.inl (by simp)) _⟩
theorem other_leaf (s : Bs) (c : Int) (p q : Nat) (hpq : p ≠ q) (w : World) (R : Rdr w p s c) (B : Blk w q (nd 1 ([]) ([]) noK).toArray) :
  Calls Tryz.prog 109 #[.pointer (some ⟨p, 0, none⟩), .pointer (some ⟨q, 0, none⟩)] w fun e w' => e = .returned (.bool (decide ((unpack (mText s c 16).1).2.2 = 0) && (unpack (mText s c 16).1).2.1)) ∧
   Rdr w' p (mText (mText s c 16).2.1 (mText s c 16).2.2 32).2.1 (mText (mText s c 16).2.1 (mText s c 16).2.2 32).2.2 ∧
   Blk w' q (nd 1 ((unpack (mText s c 16).1).1) ((mText (mText s c 16).2.1 (mText s c 16).2.2 32).1) noK).toArray ∧ Mod [p, q] w w' := by
 have hqp : q ∉ [p] := by simpa using fun h => hpq h.symm
 have hml := mText_len s c 16 (by omega)
 generalize hm : mText s c 16 = m at *
 generalize hu : unpack m.1 = u at *
 generalize ht : mText m.2.1 m.2.2 32 = t at *
 have HM := Lib.hid hm
 have HU := Lib.hid hu
 have HT := Lib.hid ht
 clear hm hu ht
 obtain ⟨u1, u2, u3⟩ := u
 go_enter Tryz.func109, Tryz.ntmps109
 go_wp2_with fail
 refine (rtext_any s c 16 p _ R).mono ?_
 rw [HM.out]
 rintro e w1 ⟨rfl, R1, m1⟩
 have B1 := B.mod m1 hqp
 go_wp2_with fail
 refine (nunpack_any m.1 (by omega) _).mono ?_
 rw [HU.out]
 rintro e w2 ⟨rfl, hb⟩
 have B2 := B1.keep hb
 have R2 := R1.mod (Mod.of_below (l := []) hb) (by simp)
 have m2 : Mod [p, q] w w2 := (m1.sub (by simp)).trans (Mod.of_below hb)
 clear R R1 B B1 m1 hb
 have B3 := B2.set 1 (.string ⟨List.toArray u1⟩)
 rw [nd_set1] at B3
 obtain ⟨b1, b2, b3⟩ := id B2
 go_wp2_with fail
 refine (rtext_any m.2.1 m.2.2 32 p _ (R2.other (by simpa using fun h => hpq h.symm) _)).mono ?_
 rw [HT.out]
 rintro e w3 ⟨rfl, R3, m3⟩
 have B4 := B3.mod m3 hqp
 have B5 := B4.set 2 (.string ⟨List.toArray t.1⟩)
 rw [nd_set2] at B5
 clear b1 b2 b3 hml
 obtain ⟨b1, b2, b3⟩ := id B4
 by_cases h0 : u3 = 0
 ·subst h0
  cases u2
  all_goals
   go_wp2_with fail
   go_ret
   exact ⟨rfl, R3.other (by simpa using fun h => hpq h.symm) _, B5, ((m2.setCell (.inl (by simp)) _).call m3 (by simp)).setCell (.inl (by simp)) _⟩
 ·have h1 : (u3 == 0) = false := by simpa using h0
  go_wp2_with fail
  go_ret
  exact ⟨by simp [h0], R3.other (by simpa using fun h => hpq h.symm) _, B5, ((m2.setCell (.inl (by simp)) _).call m3 (by simp)).setCell (.inl (by simp)) _⟩
theorem other_ext (s : Bs) (c kind : Int) (hk : (kind == 1) = false) (p q : Nat) (hpq : p ≠ q) (w : World) (R : Rdr w p s c) (B : Blk w q (nd kind ([]) ([]) noK).toArray) :
  Calls Tryz.prog 109 #[.pointer (some ⟨p, 0, none⟩), .pointer (some ⟨q, 0, none⟩)] w fun e w' => e = .returned (.bool (decide ((unpack (mText s c 16).1).2.2 = 0) && !(unpack (mText s c 16).1).2.1)) ∧
   Rdr w' p (mBytes (mText s c 16).2.1 (mText s c 16).2.2 32).2.1 (mBytes (mText s c 16).2.1 (mText s c 16).2.2 32).2.2 ∧
   Blk w' q (nd kind ((unpack (mText s c 16).1).1) ([]) ((upd noK 0 (mBytes (mText s c 16).2.1 (mText s c 16).2.2 32).1))).toArray ∧ Mod [p, q] w w' := by
 have hqp : q ∉ [p] := by simpa using fun h => hpq h.symm
 have hml := mText_len s c 16 (by omega)
 generalize hm : mText s c 16 = m at *
 generalize hu : unpack m.1 = u at *
 generalize ht : mBytes m.2.1 m.2.2 32 = t at *
 have HM := Lib.hid hm
 have HU := Lib.hid hu
 have HT := Lib.hid ht
 clear hm hu ht
 obtain ⟨u1, u2, u3⟩ := u
 go_enter Tryz.func109, Tryz.ntmps109
 go_wp2_with fail
 refine (rtext_any s c 16 p _ R).mono ?_
 rw [HM.out]
 rintro e w1 ⟨rfl, R1, m1⟩
 have B1 := B.mod m1 hqp
 go_wp2_with fail
 refine (nunpack_any m.1 (by omega) _).mono ?_
 rw [HU.out]
 rintro e w2 ⟨rfl, hb⟩
 have B2 := B1.keep hb
 have R2 := R1.mod (Mod.of_below (l := []) hb) (by simp)
 have m2 : Mod [p, q] w w2 := (m1.sub (by simp)).trans (Mod.of_below hb)
 clear R R1 B B1 m1 hb
 have B3 := B2.set 1 (.string ⟨List.toArray u1⟩)
 rw [nd_set1] at B3
 have R3 := R2.other (x := ⟨q, 1, none⟩) (by simpa using fun h => hpq h.symm) (.string ⟨List.toArray u1⟩)
 obtain ⟨b1, b2, b3⟩ := id B2
 clear hml
 go_wp2_with fail
 have m3 := m2.setCell (p := ⟨q, 1, none⟩) (.inl (by simp)) (.string ⟨List.toArray u1⟩)
 generalize w2.setCell ⟨q, 1, none⟩ (.string ⟨List.toArray u1⟩) = w3 at *
 clear b1 b2 b3 B2 R2 m2
 obtain ⟨b1, b2, b3⟩ := id B3
 go_region_with (go_at_call 107; refine (bytes_any m.2.1 m.2.2 32 p _ (by omega) ?hR).mono ?_; (case hR => first | exact R3 | exact R3.drew | exact R3.drewN _); rw [HT.out]; rintro e w' ⟨rfl, R4, m4⟩; have B4 := B3.drew.mod m4 hqp; obtain ⟨c1, c2, c3⟩ := id B4)
 all_goals
  have B5 := B4.set (3 + 0) (.string ⟨List.toArray t.1⟩)
  rw [nd_setk _ _ _ _ _ (by omega)] at B5
  by_cases h0 : u3 = 0
  ·subst h0
   cases u2
   all_goals
    go_wp2_with fail
    go_ret
    exact ⟨rfl, R4.other (by simpa using fun h => hpq h.symm) _, B5, (m3.drew.call m4 (by simp)).setCell (.inl (by simp)) _⟩
  ·have h1 : (u3 == 0) = false := by simpa using h0
   go_wp2_with fail
   go_ret
   exact ⟨by simp [h0], R4.other (by simpa using fun h => hpq h.symm) _, B5, (m3.drew.call m4 (by simp)).setCell (.inl (by simp)) _⟩
end Go.Proofs.YtjppbomngnomhaaGreatDoor
