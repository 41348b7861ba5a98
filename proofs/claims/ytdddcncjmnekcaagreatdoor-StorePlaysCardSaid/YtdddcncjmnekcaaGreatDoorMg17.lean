/- Reach, Keep, Noted. -/
import Derived.Deep.Upon
import Derived.Test.YtdddcncjmnekcaaGreatDoorMg3
import Derived.Test.YtdddcncjmnekcaaGreatDoorMg9
import Derived.Test.YtdddcncjmnekcaaGreatDoorMg16
set_option linter.unnecessarySimpa false

/- Walks of the store: Reach, Fork, Keep. -/
set_option linter.unusedSimpArgs false
set_option linter.unusedVariables false
namespace Go.Proofs.YtdddcncjmnekcaaGreatDoor
open Go.RowKit Go.WideMaps Go.Maps Go.Sort Go.Shelf Pl

theorem sort_lt {l : List Bs} (h : l.Nodup) : (sortB l).Pairwise (fun x y => x < y) := by
  have h1 : (sortB l).Pairwise (fun x y => x ≤ y) := by
    have := List.pairwise_mergeSort (le := fun x y : Bs => decide (x ≤ y)) (fun x y z h k => by simp only [decide_eq_true_eq] at *; exact List.le_trans h k) (fun x y => by simp only [Bool.or_eq_true, decide_eq_true_eq]; exact List.le_total x y) l
    exact this.imp (fun h => by simpa using h)
  have h2 : (sortB l).Nodup := (sortB_perm l).nodup_iff.2 h
  refine (h1.and h2).imp (fun {x y} ⟨h, hn⟩ => ?_)
  rcases Classical.em (x < y) with hl | hl
  · exact hl
  · exact absurd (List.le_antisymm h (List.not_lt.1 hl)) hn
/-- These are just what is reached, in order. -/
def IsR (T : List Ent) (S L : List Bs) : Prop := L.Pairwise (fun x y => x < y) ∧ ∀ s, s ∈ L ↔ Rch T S s
theorem IsR.uniq {T : List Ent} {S L M : List Bs} (h : IsR T S L) (k : IsR T S M) : L = M :=
  sorted_uniq L M h.1 k.1 (fun x => (h.2 x).trans (k.2 x).symm)
set_option maxRecDepth 100000 in
set_option maxHeartbeats 1000000 in
theorem sreach_anyM (base base2 p b : Nat) (T : List Ent) (hsh : ShortE T) (hT : T.length ≤ 1000) (u : Value) (S : List Bs) (hSn : S.length ≤ 100000) (hSl : ∀ x ∈ S, x.length ≤ maxLen) (w : World) (h : Sto w base p b T) (hu : SRow w base2 u S) :
    Calls Tryz.prog 25 #[.pointer (some ⟨p, 0, none⟩), u] w fun e w' => ∃ (v : Value) (L : List Bs), e = .returned v ∧ SRow w' w.heap.size v L ∧ IsR T S L ∧ (∀ x ∈ L, x ∈ keysE T) ∧ L.length ≤ T.length ∧ Below w.heap.size w w' := by
  have hre := reached_anyM base base2 p b T hsh hT u S hSn hSl w h hu
  clear h hu
  go_enter Tryz.func25, Tryz.ntmps25
  go_wp2_with fail
  refine hre.mono ?_
  rintro e w1 ⟨q, I, D, rfl, hq, hown, hI, hnd, hR, hk, hb⟩
  have hpm := keys_perm hown hnd hI.has
  have hle : I.length ≤ T.length := by
    have := nodup_len I (keysE T) hnd hk
    unfold keysE at this
    rwa [List.length_map] at this
  have hso := sortedI_any q _ D _ w1 hown (by rw [hI.size]; omega)
  rw [show (strKeys D).mergeSort (fun x y => decide (x ≤ y)) = sortB I from (sortB_of hpm).symm] at hso
  clear hre
  go_wp2_with fail
  refine (keysI_any (some q) _).mono ?_
  rintro e w2 ⟨rfl, rfl⟩
  go_wp2_with fail
  refine hso.mono ?_
  rintro e w3 ⟨v, rfl, hr, hb3⟩
  go_wp2_with fail
  go_ret
  have hmem : ∀ s, s ∈ sortB I ↔ s ∈ I := fun s => (sortB_perm I).mem_iff
  refine ⟨v, sortB I, rfl, SRow.low hr hb.size, ⟨sort_lt hnd, fun s => (hmem s).trans (hR s)⟩, fun x hx => hk x ((hmem x).1 hx), by rw [(sortB_perm I).length_eq]; exact hle, ?_⟩
  exact hb.trans (((Below.allocS (Below.refl _ _) _).trans hb3).mono hb.size)
theorem sreach_any (base base2 p b : Nat) (T : List Ent) (hsh : ShortE T) (hT : T.length ≤ 1000) (u : Value) (S : List Bs) (hSn : S.length ≤ 100000) (hSl : ∀ x ∈ S, x.length ≤ 1000) (w : World) (h : Sto w base p b T) (hu : SRow w base2 u S) :
    Calls Tryz.prog 25 #[.pointer (some ⟨p, 0, none⟩), u] w fun e w' => ∃ (v : Value) (L : List Bs), e = .returned v ∧ SRow w' w.heap.size v L ∧ IsR T S L ∧ (∀ x ∈ L, x ∈ keysE T) ∧ L.length ≤ T.length ∧ Below w.heap.size w w' :=
  sreach_anyM base base2 p b T hsh hT u S hSn (fun x hx => by have := hSl x hx; unfold maxLen; omega) w h hu
set_option maxRecDepth 100000 in
set_option maxHeartbeats 1000000 in
theorem sfork_any (base p b : Nat) (T : List Ent) (w : World) (h : Sto w base p b T) :
    Calls Tryz.prog 10 #[.pointer (some ⟨p, 0, none⟩)] w fun e w' => ∃ p2 b2, e = .returned (.pointer (some ⟨p2, 0, none⟩)) ∧ Sto w' base p2 b2 T ∧ w.heap.size ≤ p2 ∧ w.heap.size ≤ b2 ∧ Below w.heap.size w w' := by
  obtain ⟨D, ho, hD⟩ := h.own
  have hc := AnyW.maps_Clone_owns cloneB _ hR b _ D w ho
  obtain ⟨b1, b2, b3⟩ := id h.blk
  have hbb := h.hb
  have hbl := h.blt
  clear h
  go_enter Tryz.func10, Tryz.ntmps10
  go_wp2_with fail
  refine hc.mono ?_
  rintro e w1 ⟨rfl, hown, _, hb⟩
  go_wp2_with fail
  go_ret
  refine ⟨w1.heap.size, w.heap.size, rfl, ⟨by have := hb.size; omega, by omega, ?_, by simp, D, hown.alloc _, ?_⟩, hb.size, Nat.le_refl _, Below.allocS hb _⟩
  · simpa using heap_alloc_new w1 (.cells #[.map (some w.heap.size)] 45)
  · refine (hD.kept hb.size (fun g c fz hg => hb.block g (stok_lt (.inr (.inl ⟨c, fz, hg⟩))))).kept (by simp) (fun g c fz hg => ?_)
    exact Below.heap_alloc _ _ _ (stok_lt (.inr (.inl ⟨c, fz, hg⟩)))
end Go.Proofs.YtdddcncjmnekcaaGreatDoor

/- The walk of Keep. -/
set_option linter.unusedSimpArgs false
set_option linter.unusedVariables false
namespace Go.Proofs.YtdddcncjmnekcaaGreatDoor
open Go.RowKit Go.WideMaps Go.Maps Go.Sort Go.Shelf Pl

theorem own_tight {H : Type} {w : World} {R : Value → Option (DataW H × List MemPlace)} {b n : Nat} {D : DataW H} (h : w.ownsMap Tryz.prog 9 R b n D) : w.ownsMap Tryz.prog 9 R b (Maps.size D) D := by
  obtain ⟨es, c, h1, h2, h3, rfl⟩ := h
  exact ⟨es, c, h1, h2, by simp [Maps.size, length_sorted], rfl⟩
/-- Without a sum. -/
def dropT (T : List Ent) (x : Bs) : List Ent := T.filter (fun e => !(e.1 == x))
theorem drop_keys {T : List Ent} {x k : Bs} : k ∈ keysE (dropT T x) ↔ k ∈ keysE T ∧ k ≠ x := by
  rw [mem_keys, mem_keys]
  unfold dropT
  constructor
  · rintro ⟨t, h⟩
    rw [List.mem_filter] at h
    exact ⟨⟨t, h.1⟩, by simpa using h.2⟩
  · rintro ⟨⟨t, h⟩, hne⟩
    exact ⟨t, List.mem_filter.2 ⟨h, by simpa using hne⟩⟩
theorem drop_out {T : List Ent} {x : Bs} (h : x ∉ keysE T) : dropT T x = T := by
  unfold dropT
  rw [List.filter_eq_self]
  intro e he
  have : e.1 ≠ x := fun e2 => h (by rw [← e2]; exact mem_keys.2 ⟨e.2, he⟩)
  simpa using this
theorem drop_len : ∀ {T : List Ent} {x : Bs}, (keysE T).Nodup → x ∈ keysE T → (dropT T x).length + 1 = T.length
  | [], x, _, h => by cases h
  | e :: r, x, hn, h => by
    unfold keysE at hn
    rw [List.map_cons, List.nodup_cons] at hn
    by_cases he : e.1 = x
    · have h0 := drop_out (T := r) (x := x) (by rw [← he]; exact hn.1)
      unfold dropT at h0 ⊢
      rw [List.filter_cons_of_neg (by simp [he]), h0]
      rfl
    · have hr : x ∈ keysE r := by
        rcases List.mem_cons.1 h with h | h
        · exact absurd h.symm he
        · exact h
      have h0 := drop_len (T := r) (x := x) hn.2 hr
      unfold dropT at h0 ⊢
      rw [List.filter_cons_of_pos (by simp [he])]
      simp only [List.length_cons]
      omega
theorem StoD.del {w : World} {base : Nat} {D : DataW Value} {T : List Ent} (h : StoD w base D T) (hD : Tidy D) {x : Bs} (hx : x ∈ keysE T) : StoD w base (D.del (.string x)) (dropT T x) := by
  refine ⟨fun k => ?_, fun e he => ?_, ?_, ?_⟩
  · by_cases e : k = x
    · subst e
      rw [has_del_same]
      have : k ∉ keysE (dropT T k) := fun h => (drop_keys.1 h).2 rfl
      simp [this]
    · rw [has_del_other (by intro h; injection h with h; exact e h), h.has, decide_eq_decide, drop_keys]
      simp [e]
  · unfold dropT at he
    rw [List.mem_filter] at he
    obtain ⟨v, h1, h2⟩ := h.val e he.1
    have hne : e.1 ≠ x := by simpa using he.2
    exact ⟨v, by rw [atKey_del_other (by intro h; injection h with h; exact hne h)]; exact h1, h2⟩
  · exact List.Nodup.sublist (List.Sublist.map _ List.filter_sublist) h.nodup
  · have h1 := size_del hD (k := .string x)
    rw [h.has, if_pos (by simpa using hx), h.size] at h1
    have h2 := drop_len h.nodup hx
    omega
/-- Only these stay. -/
def keepT (T : List Ent) (I : List Bs) : List Ent := T.filter (fun e => decide (e.1 ∈ I))
/-- Those among l that are not to stay are gone. -/
def goneT (T : List Ent) (I l : List Bs) : List Ent := T.filter (fun e => decide (e.1 ∈ I) || !decide (e.1 ∈ l))
theorem gone_nil (T : List Ent) (I : List Bs) : goneT T I [] = T := by
  unfold goneT
  rw [List.filter_eq_self]
  intro e _
  simp
theorem gone_all (T : List Ent) (I l : List Bs) (h : ∀ k ∈ keysE T, k ∈ l) : goneT T I l = keepT T I := by
  unfold goneT keepT
  refine List.filter_congr (fun e he => ?_)
  have := h e.1 (mem_keys.2 ⟨e.2, he⟩)
  simp [this]
theorem gone_stay (T : List Ent) (I l : List Bs) (x : Bs) (hx : x ∈ I) : goneT T I (l ++ [x]) = goneT T I l := by
  unfold goneT
  refine List.filter_congr (fun e _ => ?_)
  by_cases h : e.1 = x
  · rw [h]; simp [hx]
  · simp [h]
theorem gone_drop (T : List Ent) (I l : List Bs) (x : Bs) (hx : x ∉ I) : goneT T I (l ++ [x]) = dropT (goneT T I l) x := by
  unfold goneT dropT
  rw [List.filter_filter]
  refine List.filter_congr (fun e _ => ?_)
  by_cases h : e.1 = x
  · rw [h]; simp [hx]
  · simp [h]
theorem gone_mem {T : List Ent} {I l : List Bs} {k : Bs} : k ∈ keysE (goneT T I l) ↔ k ∈ keysE T ∧ (k ∈ I ∨ k ∉ l) := by
  rw [mem_keys, mem_keys]
  unfold goneT
  constructor
  · rintro ⟨t, h⟩
    rw [List.mem_filter] at h
    exact ⟨⟨t, h.1⟩, by simpa using h.2⟩
  · rintro ⟨⟨t, h⟩, hne⟩
    exact ⟨t, List.mem_filter.2 ⟨h, by simpa using hne⟩⟩
theorem gone_len (T : List Ent) (I l : List Bs) : (goneT T I l).length ≤ T.length := List.length_filter_le _ _
theorem grown_below2 {w w' : World} {r : Option Nat} (h : Below w.heap.size w w') : w.grownBy w' r := ⟨h.os, h.tape, h.output, h.size, fun k hk _ => h.block k hk⟩
theorem grown_trans2 {w w1 w2 : World} {r : Option Nat} (h : w.grownBy w1 r) (k : w1.grownBy w2 r) : w.grownBy w2 r :=
  ⟨k.os.trans h.os, k.tape.trans h.tape, k.output.trans h.output, Nat.le_trans h.size k.size, fun i hi hne => (k.block i (Nat.lt_of_lt_of_le hi h.size) hne).trans (h.block i hi hne)⟩
theorem Sto.not_p {w : World} {base p b : Nat} {T : List Ent} (h : Sto w base p b T) : p ≠ b := by
  intro e
  subst e
  obtain ⟨D, ⟨es, c, hm, _⟩, _⟩ := h.own
  have := h.cell
  rw [hm] at this
  cases this
theorem Sto.map {w : World} {base p b : Nat} {T : List Ent} (h : Sto w base p b T) : ∃ es c, w.heap[b]? = some (Obj.map es c) := by
  obtain ⟨D, ⟨es, c, hm, _⟩, _⟩ := h.own
  exact ⟨es, c, hm⟩
/-- A sum goes. -/
theorem Sto.drop {w w' : World} {base p b n : Nat} {T : List Ent} {D : DataW Value} {x : Bs} (h : Sto w base p b T) (hD : StoD w base D T) (ht : Tidy D) (hx : x ∈ keysE T) (ho : w'.ownsMap Tryz.prog 9 hR b n (D.del (.string x))) (hg : w.grownBy w' (some b)) : Sto w' base p b (dropT T x) := by
  have hpb := h.not_p
  have hnb : ∀ g c fz, w.heap[g]? = some (Obj.cells c 5 fz) → some g ≠ some b := by
    intro g c fz hg' e
    injection e with e
    subst e
    obtain ⟨es, cl, hm⟩ := h.map
    rw [hm] at hg'
    cases hg'
  have hd := hD.del ht hx
  refine ⟨h.hp, h.hb, (hg.block p h.lt (by simpa using hpb)).trans h.cell, by have := h.lt; have := hg.size; omega, _, ?_, hd.kept hg.size (fun g c fz hg' => hg.block g (stok_lt (.inr (.inl ⟨c, fz, hg'⟩))) (hnb g c fz hg'))⟩
  rw [← hd.size]
  exact own_tight ho
set_option maxRecDepth 100000 in
set_option maxHeartbeats 2000000 in
theorem skeep_anyM (base base2 p b : Nat) (T : List Ent) (hsh : ShortE T) (hT : T.length ≤ 1000) (u : Value) (S : List Bs) (hSn : S.length ≤ 100000) (hSl : ∀ x ∈ S, x.length ≤ maxLen) (hkl : ∀ x ∈ keysE T, x.length ≤ maxLen) (w : World) (h : Sto w base p b T) (hu : SRow w base2 u S) :
    Calls Tryz.prog 8 #[.pointer (some ⟨p, 0, none⟩), u] w fun e w' => ∃ I : List Bs, (∀ s, s ∈ I ↔ Rch T S s) ∧ e = .returned (.int .i64 (((T.length - (keepT T I).length : Nat) : Int))) ∧ Sto w' base p b (keepT T I) ∧ w.grownBy w' (some b) := by
  have hre := reached_anyM base base2 p b T hsh hT u S hSn hSl w h hu
  have hblt := h.blt
  have HS := Lib.hid h
  have HKL := Lib.hid hkl
  clear h hu hkl
  go_enter Tryz.func8, Tryz.ntmps8
  go_wp2_with fail
  refine hre.mono ?_
  rintro e w1 ⟨q, I, D, rfl, hq, hown, hI, hnd, hR, hk, hb⟩
  have h1 := HS.out.keep hb
  have hsu := ssums_any base p b T hT w1 h1
  have HR := Lib.hid hR
  have hs1 := hb.size
  have hg1 : w.grownBy w1 (some b) := grown_below2 hb
  clear hre hk hR hnd hb
  go_wp2_with fail
  refine hsu.mono ?_
  rintro e w2 ⟨v, rfl, hr2, hb2⟩
  have h2 := h1.keep hb2
  have hown2 := ownsMap_at hown (hb2.block q hown.lt)
  have hg2 : w.grownBy w2 (some b) := grown_trans2 hg1 (grown_below2 hb2)
  have hLk : ∀ k ∈ keysE T, k ∈ sortB (keysE T) := fun k hk => (sortB_perm (keysE T)).mem_iff.2 hk
  have hLs : ∀ k ∈ sortB (keysE T), k ∈ keysE T := fun k hk => (sortB_perm (keysE T)).mem_iff.1 hk
  have hLn : (sortB (keysE T)).Nodup := (sortB_perm (keysE T)).nodup_iff.2 h1.nodup
  have hLl : (sortB (keysE T)).length ≤ 1000 := by rw [(sortB_perm (keysE T)).length_eq]; unfold keysE; rw [List.length_map]; exact hT
  clear hsu h1 hown hg1 hb2
  generalize sortB (keysE T) = L at *
  obtain ⟨va, vc, rfl⟩ := hr2.form
  have HLK := Lib.hid hLk
  have HLS := Lib.hid hLs
  have HLN := Lib.hid hLn
  clear hLk hLs hLn
  go_wp2_with fail
  go_loopw [15, 6, 8] (fun s15 s6 _ wr => ∃ (n gone : Nat), s15 = .int .i64 (n) ∧ s6 = .int .i64 (gone) ∧ n ≤ L.length ∧ Sto wr base p b (goneT T I (L.take n)) ∧ gone + (goneT T I (L.take n)).length = T.length ∧ w2.grownBy wr (some b)) (fun s15 _ _ _ => L.length - (intOf s15).toNat)
  case atStart => exact ⟨0, 0, rfl, rfl, Nat.zero_le _, by rw [List.take_zero, gone_nil]; exact h2, by rw [List.take_zero, gone_nil]; omega, ⟨rfl, rfl, rfl, Nat.le_refl _, fun _ _ _ => rfl⟩⟩
  case round =>
    obtain ⟨n, gone, rfl, rfl, hn, hS, hgo, hgr⟩ := hrel
    clear h2
    obtain ⟨b1, b2, b3⟩ := id hS.blk
    by_cases hlt : n < L.length
    · have d1 : decide ((n : Int) < (L.length : Int)) = true := by simp; omega
      have i0 : 0 ≤ (n : Int) ∧ (n : Int) < (L.length : Int) := by omega
      have hw0 : IntKind.i64.wrap ((n : Int) + 1) = (n : Int) + 1 := by rw [IntKind.wrap_i64]; omega
      have hrr : SRow wr w1.heap.size (.slice va L.length vc) L := hr2.grown hgr (fun k hk e => by have := hr2.own k hk; injection e with e; omega)
      obtain ⟨g, off, rfl, hgl, q0⟩ := hrr.ss.at' n hlt
      have htk := takeS L n hlt
      have hxk : L.getD n [] ∈ keysE T := HLS.out _ (by rw [List.getD_eq_getElem?_getD, List.getElem?_eq_getElem hlt]; exact List.getElem_mem _)
      have hxn : L.getD n [] ∉ L.take n := by
        have := HLN.out
        rw [← List.take_append_drop n L, List.nodup_append] at this
        intro hm
        refine this.2.2 _ hm (L.getD n []) ?_ rfl
        rw [dropS L n hlt]
        simp
      generalize L.getD n [] = x at *
      have hxm := HKL.out x hxk
      have hownr := ownsMap_at hown2 (hgr.block q hown2.lt (fun e => by injection e with e; omega))
      obtain ⟨k, hrunI, hat, _⟩ := hownr.lookup_int keyedS Tryz.underlying49 Tryz.underlying3 (zeroI _) (keyS x hxm)
      rw [hI.val] at hat
      have hkv : k = if x ∈ I then 1 else 0 := by
        injection hat with hat
        injection hat with _ hat
        exact hat.symm
      clear hat hrr hownr
      by_cases hxI : x ∈ I
      · rw [if_pos hxI] at hkv
        subst hkv
        go_wp2_with fail
        refine ⟨⟨n + 1, gone, rfl, rfl, by omega, ?_, ?_, hgr⟩, by simp [intOf]; omega⟩
        · rw [htk, gone_stay _ _ _ _ hxI]; exact hS
        · rw [htk, gone_stay _ _ _ _ hxI]; exact hgo
      · rw [if_neg hxI] at hkv
        subst hkv
        have hxg : x ∈ keysE (goneT T I (L.take n)) := gone_mem.2 ⟨hxk, .inr hxn⟩
        have hdl := drop_len hS.nodup hxg
        obtain ⟨D', ho', hD'⟩ := hS.own
        have htd := ho'.tidy keyedS
        have hglen := gone_len T I (L.take n)
        have hw1 : IntKind.i64.wrap ((gone : Int) + 1) = (gone : Int) + 1 := by rw [IntKind.wrap_i64]; omega
        have HSr := Lib.hid hS
        clear hS
        go_wp2_with (first
          | (at_delete; refine wpList_delete_own _ rfl _ _ 43 9 rfl 53 keyedS Tryz.underlying43 hR b _ D' rfl ho' _ _ rfl (keyS x hxm) ?_; intro w3 ho3 ht3)
          | fail)
        have hg3 := ht3.grown
        have hS3 := HSr.out.drop hD' htd hxg ho3 hg3
        refine ⟨⟨n + 1, gone + 1, rfl, rfl, by omega, ?_, ?_, grown_trans2 hgr hg3⟩, by simp [intOf]; omega⟩
        · rw [htk, gone_drop _ _ _ _ hxI]; exact hS3
        · rw [htk, gone_drop _ _ _ _ hxI]; omega
    · have e : n = L.length := by omega
      subst e
      have d1 : decide ((L.length : Int) < (L.length : Int)) = false := by simp
      rw [List.take_length, gone_all T I L HLK.out] at hS hgo
      go_wp2_with fail
      all_goals (go_ret; exact ⟨I, HR.out, (by rw [show T.length - (keepT T I).length = gone from by omega]; rfl), hS, grown_trans2 hg2 hgr⟩)
theorem skeep_any (base base2 p b : Nat) (T : List Ent) (hsh : ShortE T) (hT : T.length ≤ 1000) (u : Value) (S : List Bs) (hSn : S.length ≤ 100000) (hSl : ∀ x ∈ S, x.length ≤ 1000) (hkl : ∀ x ∈ keysE T, x.length ≤ maxLen) (w : World) (h : Sto w base p b T) (hu : SRow w base2 u S) :
    Calls Tryz.prog 8 #[.pointer (some ⟨p, 0, none⟩), u] w fun e w' => ∃ I : List Bs, (∀ s, s ∈ I ↔ Rch T S s) ∧ e = .returned (.int .i64 (((T.length - (keepT T I).length : Nat) : Int))) ∧ Sto w' base p b (keepT T I) ∧ w.grownBy w' (some b) :=
  skeep_anyM base base2 p b T hsh hT u S hSn (fun x hx => by have := hSl x hx; unfold maxLen; omega) hkl w h hu
end Go.Proofs.YtdddcncjmnekcaaGreatDoor

/- Slices of noted texts: read ones, and such as a call itself made. -/
set_option linter.unusedSimpArgs false
set_option linter.unusedVariables false
namespace Go.Proofs.YtdddcncjmnekcaaGreatDoor
open Go.RowKit Pl

/-- The cells of a list of items. -/
def NSrc (w : World) (g o : Nat) (l : List (Bs × Bs)) : Prop := ∀ i, i < l.length → w.cell? ⟨g, o + i * 3, none⟩ = some (.int .i64 (1)) ∧ w.cell? ⟨g, o + i * 3 + 1, none⟩ = some (.string ⟨List.toArray ((l.getD i ([], [])).2)⟩) ∧ w.cell? ⟨g, o + i * 3 + 2, none⟩ = some (.string ⟨List.toArray ((l.getD i ([], [])).1)⟩)
/-- v reads as these items. -/
def NL (w : World) (v : Value) (l : List (Bs × Bs)) : Prop :=
  ∃ a cap, v = .slice a l.length cap ∧ l.length ≤ cap ∧ cap ≤ maxLen ∧ (l ≠ [] → ∃ g off, a = some ⟨g, off, none⟩ ∧ g < w.heap.size ∧ NSrc w g off l)
theorem NL.keep {W w : World} {v : Value} {l : List (Bs × Bs)} (h : NL W v l) (hb : Below W.heap.size W w) : NL w v l := by
  obtain ⟨a, cap, h1, h2, h3, h4⟩ := h
  refine ⟨a, cap, h1, h2, h3, fun hl => ?_⟩
  obtain ⟨g, off, e, hg, hc⟩ := h4 hl
  exact ⟨g, off, e, Nat.lt_of_lt_of_le hg hb.size, fun i hi => ⟨(hb.cell (p := ⟨g, off + i * 3, none⟩) hg).trans (hc i hi).1, (hb.cell (p := ⟨g, off + i * 3 + 1, none⟩) hg).trans (hc i hi).2.1, (hb.cell (p := ⟨g, off + i * 3 + 2, none⟩) hg).trans (hc i hi).2.2⟩⟩
theorem NL.form {w : World} {v : Value} {l : List (Bs × Bs)} (h : NL w v l) : ∃ a c, v = .slice a l.length c := by
  obtain ⟨a, cap, h1, _⟩ := h
  exact ⟨a, cap, h1⟩
theorem NL.small {w : World} {v : Value} {l : List (Bs × Bs)} (h : NL w v l) : l.length ≤ 9223372036854775807 := by
  obtain ⟨a, cap, h1, h2, h3, _⟩ := h
  unfold maxLen at h3; omega
theorem NL.at {w : World} {a : Option Addr} {c : Nat} {l : List (Bs × Bs)} (h : NL w (.slice a l.length c) l) (i : Nat) (hi : i < l.length) :
    ∃ g off, a = some ⟨g, off, none⟩ ∧ g < w.heap.size ∧ w.cell? ⟨g, off + i * 3, none⟩ = some (.int .i64 (1)) ∧ w.cell? ⟨g, off + i * 3 + 1, none⟩ = some (.string ⟨List.toArray ((l.getD i ([], [])).2)⟩) ∧ w.cell? ⟨g, off + i * 3 + 2, none⟩ = some (.string ⟨List.toArray ((l.getD i ([], [])).1)⟩) := by
  obtain ⟨a', cap, h1, _, _, h5⟩ := h
  injection h1 with h1 _ _
  obtain ⟨g, off, e, hg, hc⟩ := h5 (by intro e; rw [e] at hi; simp at hi)
  exact ⟨g, off, h1.trans e, hg, (hc i hi).1, (hc i hi).2.1, (hc i hi).2.2⟩

namespace Pl
theorem dropN (l : List (Bs × Bs)) (i : Nat) (hi : i < l.length) : l.drop i = l.getD i ([], []) :: l.drop (i + 1) := by
  rw [List.drop_eq_getElem_cons hi, List.getD_eq_getElem?_getD, List.getElem?_eq_getElem hi]
  rfl
theorem takeN (l : List (Bs × Bs)) (i : Nat) (hi : i < l.length) : l.take (i + 1) = l.take i ++ [l.getD i ([], [])] := by
  rw [List.take_add_one, List.getElem?_eq_getElem hi, List.getD_eq_getElem?_getD, List.getElem?_eq_getElem hi]
  rfl
end Pl

theorem infoNt : (Tryz.prog.info? 48).map (fun i => (i.zero, i.size, i.bytes)) = some (some (.agg #[.int .i64 0, .string ⟨#[]⟩, .string ⟨#[]⟩]), 3, 40) := by kernel_rfl

def nv : List (Bs × Bs) → List Value
  | [] => []
  | x :: r => .int .i64 (1) :: .string ⟨List.toArray (x.2)⟩ :: .string ⟨List.toArray (x.1)⟩ :: nv r
theorem nv_len (l : List (Bs × Bs)) : (nv l).length = l.length * 3 := by
  induction l with
  | nil => rfl
  | cons x r ih => simp only [nv, List.length_cons, ih]; omega
theorem nv_app (a b : List (Bs × Bs)) : nv (a ++ b) = nv a ++ nv b := by
  induction a with
  | nil => rfl
  | cons x r ih => simp [nv, ih]
theorem nv_at : ∀ (l : List (Bs × Bs)) (i : Nat), i < l.length → (nv l)[i * 3]? = some (.int .i64 (1)) ∧ (nv l)[i * 3 + 1]? = some (.string ⟨List.toArray ((l.getD i ([], [])).2)⟩) ∧ (nv l)[i * 3 + 2]? = some (.string ⟨List.toArray ((l.getD i ([], [])).1)⟩)
  | x :: r, 0, _ => ⟨rfl, rfl, rfl⟩
  | x :: r, i + 1, hi => by
    have h := nv_at r i (by simpa using hi)
    rw [show (i + 1) * 3 = i * 3 + 1 + 1 + 1 from by omega]
    simpa [nv] using h
theorem nonc : ∀ (l : List (Bs × Bs)), ∀ u ∈ nv l, u.oneCell' = true
  | [], u, h => by simp [nv] at h
  | x :: r, u, h => by
    simp only [nv, List.mem_cons] at h
    rcases h with rfl | rfl | rfl | h
    · rfl
    · rfl
    · rfl
    · exact nonc r u h

/-- v is nil, or a slice of a block from base on, with these items. -/
def NRow (w : World) (base : Nat) (v : Value) (l : List (Bs × Bs)) : Prop := w.ownsRow base 48 3 v l.length (nv l)
theorem NRow.nil (w : World) (base : Nat) : NRow w base (.slice none 0 0) [] := ⟨rfl, .inl ⟨rfl, rfl⟩⟩
theorem NRow.cells {w : World} {base : Nat} {v : Value} {l : List (Bs × Bs)} (h : NRow w base v l) :
    (v = .slice none 0 0 ∧ l = []) ∨ ∃ g cap, v = .slice (some ⟨g, 0, none⟩) l.length cap ∧ base ≤ g ∧ g < w.heap.size ∧ l.length ≤ cap ∧ cap ≤ maxLen ∧ NSrc w g 0 l ∧ ∀ o, w.frozen? ⟨g, o, none⟩ = false := by
  rcases h.2 with ⟨h1, h2⟩ | ⟨g, cap, cur, hv, hb, hg, hn, hm, hc, ht⟩
  · exact .inl ⟨h1, List.length_eq_zero_iff.1 h2⟩
  · refine .inr ⟨g, cap, hv, hb, ?_, hn, hm, fun i hi => ?_, fun o => ?_⟩
    · rcases Nat.lt_or_ge g w.heap.size with hlt | hge
      · exact hlt
      · rw [Array.getElem?_eq_none hge] at hg; cases hg
    · have h1 : ∀ j, j < l.length * 3 → w.cell? ⟨g, 0 + j, none⟩ = (nv l)[j]? := by
        intro j hj
        rw [← ht, List.getElem?_take, if_pos hj]
        simp [World.cell?, hg]
      obtain ⟨h2, h3, h4⟩ := nv_at l i hi
      exact ⟨(h1 (i * 3) (by omega)).trans h2, (h1 (i * 3 + 1) (by omega)).trans h3, (h1 (i * 3 + 2) (by omega)).trans h4⟩
    · simp [World.frozen?, hg]
theorem NRow.form {w : World} {base : Nat} {v : Value} {l : List (Bs × Bs)} (h : NRow w base v l) : ∃ (a : Option Addr) (cap : Nat), v = .slice a l.length cap := by
  rcases h.cells with ⟨rfl, rfl⟩ | ⟨g, cap, rfl, _⟩
  · exact ⟨none, 0, rfl⟩
  · exact ⟨_, cap, rfl⟩
theorem NRow.own {w : World} {base : Nat} {v : Value} {l : List (Bs × Bs)} (h : NRow w base v l) : ∀ k, v.ownBlock = some k → base ≤ k := by
  intro k hk
  rcases h.cells with ⟨rfl, _⟩ | ⟨g, cap, rfl, hb, _⟩
  · cases hk
  · cases hk; exact hb
theorem NRow.nl {w : World} {base : Nat} {v : Value} {l : List (Bs × Bs)} (h : NRow w base v l) : NL w v l := by
  rcases h.cells with ⟨rfl, rfl⟩ | ⟨g, cap, h1, h2, h3, h4, h5, h6, h7⟩
  · exact ⟨none, 0, rfl, Nat.le_refl _, by unfold maxLen; omega, fun h => absurd rfl h⟩
  · exact ⟨_, cap, h1, h4, h5, fun _ => ⟨g, 0, rfl, h3, h6⟩⟩
theorem NRow.kept {w w' : World} {base : Nat} {v : Value} {l : List (Bs × Bs)} (h : NRow w base v l) (hb : ∀ k, v.ownBlock = some k → w'.heap[k]? = w.heap[k]?) : NRow w' base v l := by
  refine ⟨h.1, h.2.imp id ?_⟩
  rintro ⟨g, cap, cur, hv, h1, h2, h3⟩
  subst hv
  exact ⟨g, cap, cur, rfl, h1, (hb g rfl).trans h2, h3⟩
theorem NRow.keep {W w : World} {b : Nat} {v : Value} {l : List (Bs × Bs)} (h : NRow W b v l) (hb : Below W.heap.size W w) : NRow w b v l := by
  refine h.kept (fun k hk => hb.block k ?_)
  rcases h.cells with ⟨rfl, _⟩ | ⟨g, cap, rfl, _, hg, _⟩
  · cases hk
  · cases hk; exact hg

theorem nsrc1 (w : World) (x t : Bs) (ty : TypeId) : NSrc (w.alloc (.cells #[.int .i64 (1), .string ⟨List.toArray (t)⟩, .string ⟨List.toArray (x)⟩] ty)) w.heap.size 0 [(x, t)] := by
  intro i hi
  have : i = 0 := by simp at hi; omega
  subst this
  exact ⟨by simp, by simp, by simp⟩
theorem nsrc_news {w : World} {g o : Nat} {l : List (Bs × Bs)} (h : NSrc w g o l) : ∀ j u, (nv l)[j]? = some u → w.cell? ((⟨g, o, none⟩ : Addr).add j) = some u := by
  intro j u hj
  have hjl : j < l.length * 3 := by
    rcases Nat.lt_or_ge j (l.length * 3) with hlt | hge
    · exact hlt
    · rw [List.getElem?_eq_none (by rw [nv_len]; exact hge)] at hj; cases hj
  have hadd : (⟨g, o, none⟩ : Addr).add j = ⟨g, o + j, none⟩ := by unfold Addr.add; split <;> simp_all
  rw [hadd]
  obtain ⟨i, hi | hi | hi⟩ : ∃ i, j = i * 3 ∨ j = i * 3 + 1 ∨ j = i * 3 + 2 := ⟨j / 3, by omega⟩
  · subst hi
    exact (h i (by omega)).1.trans (((nv_at l i (by omega)).1).symm.trans hj)
  · subst hi
    have := (h i (by omega)).2.1
    rw [Nat.add_assoc] at this
    exact this.trans (((nv_at l i (by omega)).2.1).symm.trans hj)
  · subst hi
    have := (h i (by omega)).2.2
    rw [Nat.add_assoc] at this
    exact this.trans (((nv_at l i (by omega)).2.2).symm.trans hj)

section
variable {ops : Array Oper} {o : Oper} {a : Act} {w : World} {Q : Exit → Act → World → Prop}

theorem wp_appN {K : Act → World → Prop} (s x : Operand)
    (ho : o.op = .call { callee := .builtin .append, args := #[s, x], argTypes := #[25, 25] })
    (base : Nat) (v : Value) (l : List (Bs × Bs)) (hs : a.eval s = v) (hown : NRow w base v l)
    (g off m c : Nat) (news : List (Bs × Bs)) (hx : a.eval x = .slice (some ⟨g, off, none⟩) m c) (hm : news.length = m) (hsrc : NSrc w g off news)
    (hlen : l.length + m ≤ 1099511627000) (hbase : base ≤ w.heap.size)
    (h : ∀ v' w', NRow w' base v' (l ++ news) → Below base w w' → K (a.put o.dst v') w') : o.wp Tryz.prog a w K Q := by
  obtain ⟨i0, hi, hz0, hz1, hz2⟩ := info_parts infoNt
  refine wp_append_own w s x 25 ho base 48 i0 (.agg #[.int .i64 0, .string ⟨#[]⟩, .string ⟨#[]⟩]) 3 40 Tryz.underlying25 hi hz0 hz1 hz2 rfl (by decide) v l.length (nv l) hs hown ⟨g, off, none⟩ m c (nv news) hx (by rw [nv_len, hm]) (nsrc_news hsrc) (nonc news)
    (by unfold maxLen; omega) (by omega) hbase (fun v' w' h2 h3 _ => h v' w' ?_ (grown_below h3 hbase hown.own))
  unfold NRow
  rw [List.length_append, hm, nv_app]
  exact h2
theorem step_appN {K : Act → World → Prop} {E : Prop} (hgd : o.guard = none) (s x : Operand)
    (ho : o.op = .call { callee := .builtin .append, args := #[s, x], argTypes := #[25, 25] })
    (base : Nat) (v : Value) (l : List (Bs × Bs)) (hs : a.eval s = v) (hown : NRow w base v l)
    (g off m c : Nat) (news : List (Bs × Bs)) (hx : a.eval x = .slice (some ⟨g, off, none⟩) m c) (hm : news.length = m) (hsrc : NSrc w g off news)
    (hlen : l.length + m ≤ 1099511627000) (hbase : base ≤ w.heap.size)
    (h : ∀ v' w', NRow w' base v' (l ++ news) → Below base w w' → K (a.put o.dst v') w') :
    if Region.wanted o (yielded ops a.tmps) = true then Oper.wp Tryz.prog o a w K Q else E := by
  have hw : Region.wanted o (yielded ops a.tmps) = true := by simp [Region.wanted, hgd]
  rw [if_pos hw]
  exact wp_appN s x ho base v l hs hown g off m c news hx hm hsrc hlen hbase h
theorem wpList_appN {rest : List Oper} (hgd : o.guard = none) (s x : Operand)
    (ho : o.op = .call { callee := .builtin .append, args := #[s, x], argTypes := #[25, 25] })
    (base : Nat) (v : Value) (l : List (Bs × Bs)) (hs : a.eval s = v) (hown : NRow w base v l)
    (g off m c : Nat) (news : List (Bs × Bs)) (hx : a.eval x = .slice (some ⟨g, off, none⟩) m c) (hm : news.length = m) (hsrc : NSrc w g off news)
    (hlen : l.length + m ≤ 1099511627000) (hbase : base ≤ w.heap.size)
    (h : ∀ v' w', NRow w' base v' (l ++ news) → Below base w w' → wpList Tryz.prog ops Q rest (a.put o.dst v') w') : wpList Tryz.prog ops Q (o :: rest) a w :=
  wpList_plain hgd fun _ hK => wp_appN s x ho base v l hs hown g off m c news hx hm hsrc hlen hbase fun v' w' h2 h3 => hK _ _ (h v' w' h2 h3)
end

section
variable {ops : Array Oper} {o : Oper} {rest : List Oper} {a : Act} {w : World} {Q : Exit → Act → World → Prop}
/-- append(v, x...) of items, v own, x any. -/
theorem wp_appNN {K : Act → World → Prop} (s x : Operand)
    (ho : o.op = .call { callee := .builtin .append, args := #[s, x], argTypes := #[25, 25] })
    (base : Nat) (v : Value) (l : List (Bs × Bs)) (hs : a.eval s = v) (hown : NRow w base v l)
    (u : Value) (news : List (Bs × Bs)) (hx : a.eval x = u) (hsrc : NL w u news)
    (hlen : l.length + news.length ≤ 1099511627000) (hbase : base ≤ w.heap.size)
    (h : ∀ v' w', NRow w' base v' (l ++ news) → Below base w w' → K (a.put o.dst v') w') : o.wp Tryz.prog a w K Q := by
  obtain ⟨au, cu, hu, h1, h2, h3⟩ := hsrc
  by_cases hn : news = []
  · subst hn
    obtain ⟨i0, hi, hz0, hz1, hz2⟩ := info_parts infoNt
    obtain ⟨va, vc, hv⟩ := hown.form
    have hle : l.length ≤ vc := by
      rcases hown.cells with ⟨e, e2⟩ | ⟨g, cap, e, _, _, h4, _⟩
      · subst e2; simp
      · rw [hv] at e; injection e with _ _ e; subst e; exact h4
    have hS : Src Tryz.prog i0.size 25 u 0 [] w := by
      subst hu
      cases au with
      | none => exact Src.ofNil w Tryz.underlying25 cu
      | some ad => exact Src.ofSlice w Tryz.underlying25 ad 0 cu [] (by simp) (fun j u h => by simp at h) (fun _ h => by cases h)
    have hr := run_append_nothing (P := Tryz.prog) w 25 25 o.type 48 i0 Tryz.underlying25 hi va l.length vc hle u hS
    unfold Oper.wp execOp
    simp only [ho, resolve, invoke, builtin, Sem.run_bind, Sem.run_pure, Result.andThen_ok, List.map_toArray, List.map_cons, List.map_nil, hs, hx, hv, hr]
    exact h _ w (by rw [List.append_nil, ← hv]; exact hown) (Below.refl _ _)
  · obtain ⟨g, off, rfl, hg, hc⟩ := h3 hn
    exact wp_appN s x ho base v l hs hown g off news.length cu news (hx.trans hu) rfl hc hlen hbase h
theorem wpList_appNN (hgd : o.guard = none) (s x : Operand)
    (ho : o.op = .call { callee := .builtin .append, args := #[s, x], argTypes := #[25, 25] })
    (base : Nat) (v : Value) (l : List (Bs × Bs)) (hs : a.eval s = v) (hown : NRow w base v l)
    (u : Value) (news : List (Bs × Bs)) (hx : a.eval x = u) (hsrc : NL w u news)
    (hlen : l.length + news.length ≤ 1099511627000) (hbase : base ≤ w.heap.size)
    (h : ∀ v' w', NRow w' base v' (l ++ news) → Below base w w' → wpList Tryz.prog ops Q rest (a.put o.dst v') w') : wpList Tryz.prog ops Q (o :: rest) a w :=
  wpList_plain hgd fun _ hK => wp_appNN s x ho base v l hs hown u news hx hsrc hlen hbase fun v' w' h2 h3 => hK _ _ (h v' w' h2 h3)
theorem step_appNN {K : Act → World → Prop} {E : Prop} (hgd : o.guard = none) (s x : Operand)
    (ho : o.op = .call { callee := .builtin .append, args := #[s, x], argTypes := #[25, 25] })
    (base : Nat) (v : Value) (l : List (Bs × Bs)) (hs : a.eval s = v) (hown : NRow w base v l)
    (u : Value) (news : List (Bs × Bs)) (hx : a.eval x = u) (hsrc : NL w u news)
    (hlen : l.length + news.length ≤ 1099511627000) (hbase : base ≤ w.heap.size)
    (h : ∀ v' w', NRow w' base v' (l ++ news) → Below base w w' → K (a.put o.dst v') w') :
    if Region.wanted o (yielded ops a.tmps) = true then Oper.wp Tryz.prog o a w K Q else E := by
  have hw : Region.wanted o (yielded ops a.tmps) = true := by simp [Region.wanted, hgd]
  rw [if_pos hw]
  exact wp_appNN s x ho base v l hs hown u news hx hsrc hlen hbase h
end

/-! ### parts -/
theorem getD_takeN (l : List (Bs × Bs)) (k i : Nat) (hi : i < k) : (l.take k).getD i ([], []) = l.getD i ([], []) := by
  simp [List.getD_eq_getElem?_getD, List.getElem?_take, hi]
theorem getD_dropN (l : List (Bs × Bs)) (k i : Nat) : (l.drop k).getD i ([], []) = l.getD (k + i) ([], []) := by
  simp [List.getD_eq_getElem?_getD]
/-- A part up to a place. -/
theorem NL.upto {w : World} {a : Option Addr} {c : Nat} {l : List (Bs × Bs)} (h : NL w (.slice a l.length c) l) (k : Nat) (hk : k ≤ l.length) : NL w (.slice a k c) (l.take k) := by
  obtain ⟨a', cap, h1, h2, h3, h5⟩ := h
  injection h1 with e1 _ e3
  subst e1 e3
  have hl : (l.take k).length = k := by simp; omega
  refine ⟨a, c, by rw [hl], by omega, h3, fun hn => ?_⟩
  obtain ⟨g, off, e, hg, hc⟩ := h5 (by intro e; rw [e] at hn; simp at hn)
  exact ⟨g, off, e, hg, fun i hi => by rw [getD_takeN _ _ _ (by omega)]; exact hc i (by omega)⟩
end Go.Proofs.YtdddcncjmnekcaaGreatDoor
