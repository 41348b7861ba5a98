/- CertLaw, StoreW, Keys, Sums, Node. -/
import Derived.Sort.OwnSorted
import Derived.Deep.MidRow
import Derived.ChangeKeysEq
import Derived.Test.YtdddcncjmnekcaaGreatDoorMg1
import Derived.Test.YtdddcncjmnekcaaGreatDoorMg3
import Derived.Test.YtdddcncjmnekcaaGreatDoorMg10
import Derived.Test.YtdddcncjmnekcaaGreatDoorMg11
set_option linter.unnecessarySimpa false

/- Plain: what is good stays so; the certificate of all who signed; two good ones. -/
set_option linter.unusedSimpArgs false
set_option linter.unusedVariables false
namespace Go.Proofs.YtdddcncjmnekcaaGreatDoor
namespace Pl

theorem isIn_mem (L : List Sg) (n m : Bs) : isIn L n m = true ↔ (n, m) ∈ L.map keyOfS := by simp [isIn]
theorem signL_grows (L : List Sg) (who mark : Bs) (h : Bool) (n m : Bs) (hn : isIn L n m = true) : isIn (signL L who mark h).1 n m = true := by
  unfold signL
  split
  · exact hn
  · split
    · exact hn
    · split
      · rename_i hin
        rw [isIn_mem, keys_set L who mark _ hin]
        exact (isIn_mem L n m).1 hn
      · split
        · exact hn
        · rw [isIn_mem] at hn ⊢
          simp only [List.map_append, List.mem_append]
          exact .inl hn
/-- More may be signed. -/
def Grows (L M : List Sg) : Prop := ∀ n m, isIn L n m = true → isIn M n m = true
theorem Grows.refl (L : List Sg) : Grows L L := fun _ _ h => h
theorem Grows.step {L M : List Sg} (h : Grows L M) (who mark : Bs) (b : Bool) : Grows L (signL M who mark b).1 := fun n m hn => signL_grows M who mark b n m (h n m hn)
theorem chkB_grows {L M : List Sg} (h : Grows L M) (m : Bs) (ns : List Bs) (hc : chkB L m ns = true) : chkB M m ns = true := by
  unfold chkB at hc ⊢
  rw [List.all_eq_true] at hc ⊢
  exact fun n hn => h n m (hc n hn)
theorem good_parts {tag : Int} {l : List (Bs × Int)} {d : Bs} {ns : List Bs} {L : List Sg} (h : goodC tag l d ns L = 0) :
    firstC tag l (mayC d ns) = 0 ∧ chkA l ns = true ∧ chkB L (tagP tag.toNat d) ns = true ∧ quoM l ≤ ofM l ns := by
  by_cases h0 : firstC tag l (mayC d ns) = 0
  · rw [goodC_in h0] at h
    unfold goodIn at h
    cases ha : chkA l ns
    · simp [ha] at h
    · cases hb : chkB L (tagP tag.toNat d) ns
      · simp [ha, hb] at h
      · simp only [ha, hb, Bool.true_eq_false, if_false] at h
        by_cases hq : ofM l ns < quoM l
        · rw [if_pos hq] at h; exact absurd h (by decide)
        · exact ⟨h0, rfl, rfl, by omega⟩
  · rw [goodC_out h0] at h
    exact absurd h h0
theorem good_of {tag : Int} {l : List (Bs × Int)} {d : Bs} {ns : List Bs} {L : List Sg} (h0 : firstC tag l (mayC d ns) = 0) (ha : chkA l ns = true) (hb : chkB L (tagP tag.toNat d) ns = true) (hq : quoM l ≤ ofM l ns) : goodC tag l d ns L = 0 := by
  rw [goodC_in h0]
  unfold goodIn
  rw [ha, hb]
  simp only [Bool.true_eq_false, if_false]
  rw [if_neg (by omega)]
theorem good_more {tag : Int} {l : List (Bs × Int)} {d : Bs} {ns : List Bs} {L M : List Sg} (hg : Grows L M) (h : goodC tag l d ns L = 0) : goodC tag l d ns M = 0 := by
  obtain ⟨h1, h2, h3, h4⟩ := good_parts h
  exact good_of h1 h2 (chkB_grows hg _ _ h3) h4
theorem first_true {tag : Int} {l : List (Bs × Int)} (ht : tagC tag = true) (hc : chkM l = true) : firstC tag l true = 0 := by
  simp [firstC, ht, hc]
/-- Who signed, of the set: they may be signers. -/
theorem may_sel {l : List (Bs × Int)} {d : Bs} (hc : chkM l = true) (hd : d.length = 32) (L : List Sg) (m : Bs) : mayC d (selN L m l) = true := by
  have hc2 := hc
  simp only [chkM, Bool.and_eq_true, decide_eq_true_eq] at hc2
  have h1 := selN_len L m l
  have h2 := okM_okS l [] (fun x => isIn L x.1 m) hc2.2
  simp only [mayC, Bool.and_eq_true, decide_eq_true_eq]
  exact ⟨⟨hd, by omega⟩, h2⟩
theorem of_one {l : List (Bs × Int)} (hc : chkM l = true) (n : Bs) : ofM l [n] ≠ 0 ↔ ∃ x ∈ l, x.1 = n := by
  have hp : ∀ m ∈ l, 1 ≤ m.2 := by
    have hc2 := hc
    simp only [chkM, Bool.and_eq_true, decide_eq_true_eq] at hc2
    intro m hm
    obtain ⟨i, hi, rfl⟩ := List.getElem_of_mem hm
    have := (okM_at l [] hc2.2 i hi).2.1
    rw [List.getD_eq_getElem?_getD, List.getElem?_eq_getElem hi] at this
    simpa using this
  rw [ofM, if_pos hc]
  clear hc
  have key : ∀ l : List (Bs × Int), (∀ m ∈ l, 1 ≤ m.2) → 0 ≤ sumOf [n] l ∧ (sumOf [n] l ≠ 0 ↔ ∃ x ∈ l, x.1 = n) := by
    intro l
    induction l with
    | nil => intro _; simp [sumOf]
    | cons m r ih =>
      intro hp
      obtain ⟨h1, h2⟩ := ih (fun x hx => hp x (by simp [hx]))
      have h0 := hp m (by simp)
      simp only [sumOf, List.contains_iff_mem, List.mem_singleton]
      by_cases e : m.1 = n
      · rw [if_pos e]
        exact ⟨by omega, ⟨fun _ => ⟨m, by simp, e⟩, fun _ => by omega⟩⟩
      · rw [if_neg e]
        refine ⟨by omega, ⟨fun h => ?_, fun ⟨x, hx, hxe⟩ => ?_⟩⟩
        · obtain ⟨x, hx, hxe⟩ := h2.1 (by omega)
          exact ⟨x, by simp [hx], hxe⟩
        · rcases List.mem_cons.1 hx with rfl | hx
          · exact absurd hxe e
          · have := h2.2 ⟨x, hx, hxe⟩; omega
  exact (key l hp).2
theorem sel_mem (L : List Sg) (m : Bs) (l : List (Bs × Int)) (n : Bs) : n ∈ selN L m l ↔ isIn L n m = true ∧ ∃ x ∈ l, x.1 = n := by
  unfold selN
  simp only [List.mem_map, List.mem_filter]
  constructor
  · rintro ⟨x, ⟨h1, h2⟩, rfl⟩; exact ⟨h2, x, h1, rfl⟩
  · rintro ⟨h1, x, h2, rfl⟩; exact ⟨x, ⟨h2, h1⟩, rfl⟩
theorem gath_parts {tag : Int} {l : List (Bs × Int)} {s : Bs} {L : List Sg} (h : (gathC tag l s L).2 = 0) :
    tagC tag = true ∧ chkM l = true ∧ s.length = 32 ∧ quoM l ≤ ofM l (selN L (tagP tag.toNat s) l) ∧ (gathC tag l s L).1 = (s, selN L (tagP tag.toNat s) l) := by
  by_cases h0 : firstC tag l (decide (s.length = 32)) = 0
  · obtain ⟨h1, h2, h3⟩ := first_zero h0
    rw [gathC_in h0] at h ⊢
    unfold gathIn at h ⊢
    by_cases hq : ofM l (selN L (tagP tag.toNat s) l) < quoM l
    · rw [if_pos hq] at h; exact absurd h (by decide)
    · rw [if_neg hq]
      exact ⟨h2, h3, by simpa using h1, by omega, rfl⟩
  · rw [gathC_out h0] at h
    exact absurd h h0
/-- The certificate of all who signed is good, if it is told. -/
theorem gath_good {tag : Int} {l : List (Bs × Int)} {s : Bs} {L : List Sg} (h : (gathC tag l s L).2 = 0) : goodC tag l (gathC tag l s L).1.1 (gathC tag l s L).1.2 L = 0 ∧ (gathC tag l s L).1.1 = s := by
  obtain ⟨h1, h2, h3, h4, h5⟩ := gath_parts h
  rw [h5]
  refine ⟨good_of (by rw [may_sel h2 h3]; exact first_true h1 h2) ?_ ?_ h4, rfl⟩
  · unfold chkA
    rw [List.all_eq_true]
    intro n hn
    obtain ⟨_, h6⟩ := (sel_mem L _ l n).1 hn
    rw [decide_eq_true_iff]
    exact (of_one h2 n).2 h6
  · unfold chkB
    rw [List.all_eq_true]
    intro n hn
    exact ((sel_mem L _ l n).1 hn).1
/-- If any is good, it is told, and has all of that one's signers. -/
theorem good_gath {tag : Int} {l : List (Bs × Int)} {d : Bs} {ns : List Bs} {L : List Sg} (h : goodC tag l d ns L = 0) :
    (gathC tag l d L).2 = 0 ∧ (∀ both, IsBoth (gathC tag l d L).1.2 ns both → both.length = ns.length) := by
  obtain ⟨h1, h2, h3, h4⟩ := good_parts h
  obtain ⟨hm, ht, hc⟩ := first_zero h1
  obtain ⟨p1, p2, p3, p4⟩ := mayC_parts hm
  have hsub : ∀ n ∈ ns, n ∈ selN L (tagP tag.toNat d) l := by
    intro n hn
    refine (sel_mem _ _ _ _).2 ⟨?_, ?_⟩
    · unfold chkB at h3; rw [List.all_eq_true] at h3; exact h3 n hn
    · unfold chkA at h2; rw [List.all_eq_true] at h2
      have := h2 n hn
      rw [decide_eq_true_iff] at this
      exact (of_one hc n).1 this
  have hle := sum_mono ns (selN L (tagP tag.toNat d) l) hsub l (pow_pos_of hc)
  have h0 : firstC tag l (decide (d.length = 32)) = 0 := by
    rw [show decide (d.length = 32) = true from by simpa using p1]
    exact first_true ht hc
  have hg : gathC tag l d L = ((d, selN L (tagP tag.toNat d) l), 0) := by
    rw [gathC_in h0]
    unfold gathIn
    rw [if_neg]
    simp only [ofM, hc, if_true] at *
    omega
  rw [hg]
  refine ⟨rfl, fun both hb => ?_⟩
  have hso := (okS_sorted ns [] p3).2
  have : both = ns := sorted_uniq both ns hb.1 hso (fun x => ⟨fun hx => ((hb.2 x).1 hx).2, fun hx => (hb.2 x).2 ⟨hsub x hx, hx⟩⟩)
  rw [this]
/-- Two good ones. -/
theorem two_good {tag : Int} {l : List (Bs × Int)} {d e : Bs} {a b both : List Bs} {L : List Sg} (ha : goodC tag l d a L = 0) (hb : goodC tag l e b L = 0) (h : IsBoth a b both) :
    (∀ n ∈ both, isIn L n (tagP tag.toNat d) = true ∧ isIn L n (tagP tag.toNat e) = true) ∧ mostM l < ofM l both ∧ totM l < 3 * ofM l both ∧ tagC tag = true ∧ d.length = 32 ∧ e.length = 32 ∧ chkM l = true := by
  obtain ⟨a1, a2, a3, a4⟩ := good_parts ha
  obtain ⟨b1, b2, b3, b4⟩ := good_parts hb
  obtain ⟨hm, ht, hc⟩ := first_zero a1
  obtain ⟨hm2, _, _⟩ := first_zero b1
  obtain ⟨h1, h2, h3⟩ := over_law hc h
  obtain ⟨h4, h5⟩ := h3 a4 b4
  refine ⟨fun n hn => ?_, h4, h5, ht, (mayC_parts hm).1, (mayC_parts hm2).1, hc⟩
  obtain ⟨na, nb⟩ := (h.2 n).1 hn
  unfold chkB at a3 b3
  rw [List.all_eq_true] at a3 b3
  exact ⟨a3 n na, b3 n nb⟩
end Pl
end Go.Proofs.YtdddcncjmnekcaaGreatDoor

/- Walks of the store: New, Put, Get. -/
set_option linter.unusedSimpArgs false
set_option linter.unusedVariables false
namespace Go.Proofs.YtdddcncjmnekcaaGreatDoor
open Go.RowKit Go.WideMaps Go.Maps Go.Sort Pl

theorem zeroB (w : World) : (zeroValue 53).run Tryz.prog w = .ok nilV w := by
  have h : (Tryz.prog.info? 53).map (·.zero) = some (some nilV) := by kernel_rfl
  obtain ⟨i, hi, hz⟩ := Option.map_eq_some_iff.1 h
  simp [zeroValue, typeInfo, hi, hz]
section
variable {w : World} {base p b : Nat} {T : List Ent}
theorem mem_keys {T : List Ent} {k : Bs} : k ∈ keysE T ↔ ∃ t, (k, t) ∈ T := by
  unfold keysE
  rw [List.mem_map]
  constructor
  · rintro ⟨⟨a, t⟩, h, rfl⟩; exact ⟨t, h⟩
  · rintro ⟨t, h⟩; exact ⟨(k, t), h, rfl⟩
/-- v, ok := m[k]. -/
theorem Sto.look (h : Sto w base p b T) (k : Bs) (hk : k.length ≤ maxLen) :
    ∃ v, (Instr.lookup 43 (.map (some b)) (.string ⟨List.toArray (k)⟩) true).run Tryz.prog w = .ok (.tuple #[v, .bool (decide (k ∈ keysE T))]) w ∧ (∀ t, (k, t) ∈ T → BTx w base v t) ∧ (k ∉ keysE T → v = nilV) := by
  obtain ⟨D, ho, hD⟩ := h.own
  obtain ⟨v, ps, hrun, hv⟩ := ho.look_ok keyedS Tryz.underlying43 (zeroB w) (zd := .held nilV) (zp := []) rfl (keyS k hk)
  rw [hD.has] at hrun
  refine ⟨v, hrun, fun t ht => ?_, fun hn => ?_⟩
  · obtain ⟨u, h1, h2⟩ := hD.val (k, t) ht
    rw [h1] at hv
    rw [hR_inv hv]
    exact h2
  · rw [atKey_of_not_has (by rw [hD.has]; simpa using hn)] at hv
    exact hR_inv hv
theorem put_mem {T : List Ent} {t : Bs} (h : tagP 1 t ∈ keysE T) : putT T t = T := if_pos h
theorem put_new {T : List Ent} {t : Bs} (h : tagP 1 t ∉ keysE T) : putT T t = T ++ [(tagP 1 t, t)] := if_neg h
theorem StoD.put {D : DataW Value} (h : StoD w base D T) (hD : Tidy D) (k t : Bs) (v : Value) (hn : k ∉ keysE T) (hv : BTx w base v t) : StoD w base (D.put (.string k) (.held v)) (T ++ [(k, t)]) := by
  refine ⟨fun k' => ?_, fun e he => ?_, ?_, ?_⟩
  · by_cases e : k' = k
    · subst e
      rw [has_put_same hD.isMap (isKeyS k')]
      simp [keysE]
    · rw [has_put_other (by intro h; injection h with h; exact e h), h.has, decide_eq_decide]
      unfold keysE
      rw [List.map_append, List.mem_append]
      simp [e]
  · rcases List.mem_append.1 he with he | he
    · obtain ⟨u, h1, h2⟩ := h.val e he
      have hne : e.1 ≠ k := fun h => hn (by rw [← h]; exact mem_keys.2 ⟨e.2, he⟩)
      exact ⟨u, by rw [atKey_put_other (by intro h; injection h with h; exact hne h)]; exact h1, h2⟩
    · rw [List.mem_singleton] at he
      subst he
      exact ⟨v, by rw [atKey_put_same hD.isMap (isKeyS k)], hv⟩
  · unfold keysE
    rw [List.map_append, List.nodup_append]
    refine ⟨h.nodup, by simp, fun a ha b hb e => ?_⟩
    simp only [List.map_cons, List.map_nil, List.mem_singleton] at hb
    subst hb e
    exact hn ha
  · rw [size_put hD, h.has, if_neg (by simpa using hn), h.size, List.length_append]
    rfl
end
set_option maxRecDepth 100000 in
set_option maxHeartbeats 400000 in
theorem snew_any (w : World) :
    Calls Tryz.prog 4 #[] w fun e w' => e = .returned (.pointer (some ⟨w.heap.size + 1, 0, none⟩)) ∧ Sto w' w.heap.size (w.heap.size + 1) w.heap.size [] ∧ Below w.heap.size w w' := by
  have hmm := @run_makeMap Tryz.prog
  have hown : (w.alloc (.map #[] 0)).ownsMap (H := Value) Tryz.prog 9 hR w.heap.size 0 (.map []) := World.ownsMap_made _ _ _ _
  go_enter Tryz.func4, Tryz.ntmps4
  go_wp2_with fail
  go_ret
  refine ⟨rfl, ⟨by omega, Nat.le_refl _, ?_, by simp, _, hown.alloc _, ?_⟩, ?_⟩
  · have := heap_alloc_new (w.alloc (.map #[] 0)) (.cells #[.map (some w.heap.size)] 45)
    simpa using this
  · exact ⟨fun k => (by rw [has_eq]; simp [keysE]), fun e he => (by cases he), (by simp [keysE]), rfl⟩
  · exact Below.allocS ((Below.refl _ _).alloc (Nat.le_refl _) _) _
set_option maxRecDepth 100000 in
set_option maxHeartbeats 1000000 in
theorem sput_any (base p b : Nat) (T : List Ent) (t : Bs) (ht : t.length ≤ 1000) (hT : T.length ≤ 1000) (w : World) (hk : KT w) (h : Sto w base p b T) :
    Calls Tryz.prog 11 #[.pointer (some ⟨p, 0, none⟩), .string ⟨List.toArray (t)⟩] w fun e w' => e = .returned (.string ⟨List.toArray (tagP 1 t)⟩) ∧ Sto w' base p b (putT T t) ∧ w.grownBy w' (some b) := by
  have hds := digsum_ok 1 (by omega) (by omega) t (by omega) w hk
  have hkl : (tagP 1 t).length ≤ maxLen := by rw [tagP_len]; unfold maxLen; omega
  have HP : Hid (tagP 1 t ∈ keysE T → putT T t = T) := Lib.hid put_mem
  have HQ : Hid (tagP 1 t ∉ keysE T → putT T t = T ++ [(tagP 1 t, t)]) := Lib.hid put_new
  have HT := Lib.hid ht
  generalize tagP 1 t = s at *
  generalize putT T t = T' at *
  have HS := Lib.hid h
  clear h ht
  go_enter Tryz.func11, Tryz.ntmps11
  go_wp2_with fail
  refine hds.mono ?_
  rintro e w1 ⟨rfl, hb⟩
  have h1 := HS.out.keep hb
  have hlk := h1.look s hkl
  obtain ⟨v, hrun, hv1, hv2⟩ := hlk
  obtain ⟨b1, b2, b3⟩ := id h1.blk
  by_cases hin : s ∈ keysE T
  · rw [show decide (s ∈ keysE T) = true from by simpa using hin] at hrun
    clear hv1 hv2
    go_wp2_with fail
    all_goals (go_ret; exact ⟨rfl, by rw [HP.out hin]; exact h1, ⟨hb.os, hb.tape, hb.output, hb.size, fun k hk _ => hb.block k hk⟩⟩)
  · rw [show decide (s ∈ keysE T) = false from by simpa using hin] at hrun
    obtain rfl := hv2 hin
    clear hv1 hv2
    obtain ⟨D, ho, hD⟩ := h1.own
    have htd := ho.tidy keyedS
    have hblt := ho.lt
    clear h1
    have HB := Lib.hid hb
    clear hb
    go_wp2_with (refine wpList_convT rfl (.tmp 30) rfl t rfl (by have := HT.out; unfold maxLen; omega) ?_; intro u w2 hu hb02; have ho2 := ownsMap_at ho (hb02.block b hblt); obtain ⟨w3, hrun3, ho3, hg3⟩ := ho2.update keyedS Tryz.underlying43 (by unfold maxLen; omega) (keyS s hkl) (show hR u = some (.held u, []) from rfl))
    go_ret
    have hS1 := HS.out.keep HB.out
    have hS2 := hS1.keep hb02
    have hnb : ∀ g c fz, w2.heap[g]? = some (Obj.cells c 5 fz) → some g ≠ some b := by
      intro g c fz hg e
      injection e with e
      subst e
      obtain ⟨es, cl, hm, _⟩ := ho2
      rw [hm] at hg
      cases hg
    have hpb : some p ≠ some b := by
      intro e
      injection e with e
      subst e
      obtain ⟨es, cl, hm, _⟩ := ho2
      have := hS2.cell
      rw [hm] at this
      cases this
    have hD2 : StoD w2 base D T := hD.kept hb02.size (fun g c fz hg => hb02.block g (stok_lt (.inr (.inl ⟨c, fz, hg⟩))))
    have hD3 := (hD2.put htd s t u hin (by
      obtain ⟨g, cap, c, fz, q1, q2, q3⟩ := hu
      exact ⟨g, cap, c, fz, q1, Nat.le_trans (Nat.le_trans HS.out.hp (Nat.le_of_lt HS.out.lt)) (Nat.le_trans HB.out.size q2), q3⟩)).kept hg3.size (fun g c fz hg => hg3.block g (stok_lt (.inr (.inl ⟨c, fz, hg⟩))) (hnb g c fz hg))
    refine ⟨rfl, ?_, ?_⟩
    · rw [HQ.out hin]
      refine ⟨hS2.hp, hS2.hb, (hg3.block p hS2.lt hpb).trans hS2.cell, by have := hS2.lt; have := hg3.size; omega, _, ?_, hD3⟩
      rw [List.length_append]
      exact ho3
    · have h1 := HB.out
      refine ⟨hg3.os.trans (hb02.os.trans h1.os), hg3.tape.trans (hb02.tape.trans h1.tape), hg3.output.trans (hb02.output.trans h1.output), Nat.le_trans h1.size (Nat.le_trans hb02.size hg3.size), fun k hk hne => ?_⟩
      rw [hg3.block k (by have := h1.size; have := hb02.size; omega) hne, hb02.block k (by have := h1.size; omega), h1.block k hk]
/-- A text of a sum. -/
theorem get_of {T : List Ent} (hn : (keysE T).Nodup) {k t : Bs} (h : (k, t) ∈ T) : getT T k = some t := get_some hn h
theorem Sto.nodup {w : World} {base p b : Nat} {T : List Ent} (h : Sto w base p b T) : (keysE T).Nodup := by
  obtain ⟨D, _, hD⟩ := h.own
  exact hD.nodup
set_option maxRecDepth 100000 in
set_option maxHeartbeats 1000000 in
theorem sget_any (base p b : Nat) (T : List Ent) (k : Bs) (hk : k.length ≤ maxLen) (w : World) (h : Sto w base p b T) :
    Calls Tryz.prog 28 #[.pointer (some ⟨p, 0, none⟩), .string ⟨List.toArray (k)⟩] w fun e w' => e = .returned (.tuple #[.string ⟨List.toArray ((getT T k).getD [])⟩, .bool (decide (k ∈ keysE T))]) ∧ Below w.heap.size w w' := by
  obtain ⟨v, hrun, hv1, hv2⟩ := h.look k hk
  have hconv : (convert 53 9 v).run Tryz.prog w = .ok (.string ⟨List.toArray ((getT T k).getD [])⟩) w := by
    by_cases hin : k ∈ keysE T
    · obtain ⟨t, ht⟩ := mem_keys.1 hin
      rw [get_of h.nodup ht]
      exact (hv1 t ht).conv
    · rw [hv2 hin, get_none hin]
      exact run_convert_bytes_nil w 53 5 Tryz.underlying53 Tryz.underlying5 0 0 9 Tryz.underlying9
  generalize decide (k ∈ keysE T) = q at *
  generalize (getT T k).getD [] = s at *
  obtain ⟨b1, b2, b3⟩ := id h.blk
  clear hv1 hv2 h
  go_enter Tryz.func28, Tryz.ntmps28
  go_wp2_with fail
  all_goals (go_ret2; exact ⟨rfl, Below.refl _ _⟩)
end Go.Proofs.YtdddcncjmnekcaaGreatDoor

/- The keys of a map, sorted: slices.Sorted(maps.Keys(m)), by the library's contracts. -/
set_option linter.unusedSimpArgs false
set_option linter.unusedVariables false
set_option linter.unnecessarySimpa false
namespace Go.Proofs.YtdddcncjmnekcaaGreatDoor
open Go.RowKit Go.WideMaps Go.Maps Go.Sort Go.Shelf Pl

/-- slices.Sort's two contracts, at the fence that asks nothing. -/
theorem sortsM (m : Nat) : AnyZ.SortsIn Tryz.prog sortedS_ren Fence.wide m :=
  ⟨fun blk off cap ss W hH hblk hsz => callsIn_wide.2 (AnyM.slices_Sort_string sortM blk off cap ss W hH hblk hsz),
   fun p cap W => callsIn_wide.2 (AnyM.slices_Sort_string_none sortM p cap W)⟩
theorem keysB_any (mb : Option Nat) (W : World) : Calls Tryz.prog 37 #[.map mb] W fun e w' => e = .returned (.func (.func 50) #[] #[.pointer (some ⟨W.heap.size, 0, none⟩)]) ∧ w' = W.alloc (.cells #[.map mb] 43) :=
  (callsIn_wide (n := 5)).1 (AnyZ.keys_in keysB Fence.wide 5 trivial rfl mb W)
theorem keysI_any (mb : Option Nat) (W : World) : Calls Tryz.prog 41 #[.map mb] W fun e w' => e = .returned (.func (.func 57) #[] #[.pointer (some ⟨W.heap.size, 0, none⟩)]) ∧ w' = W.alloc (.cells #[.map mb] 49) :=
  (callsIn_wide (n := 5)).1 (AnyZ.keys_in keysI Fence.wide 5 trivial rfl mb W)
set_option maxHeartbeats 1000000 in
theorem sortedB_any {H : Type} (b nn : Nat) (D0 : DataW H) (R : Value → Option (DataW H × List MemPlace)) (w : World) (hown : w.ownsMap Tryz.prog 9 R b nn D0) (hmax : Maps.size D0 ≤ 1000000) :
    Calls Tryz.prog 36 #[.func (.func 50) #[] #[.pointer (some ⟨w.heap.size, 0, none⟩)]] (w.alloc (.cells #[.map (some b)] 43)) fun e w' => ∃ v, e = .returned v ∧ SRow w' w.heap.size v ((strKeys D0).mergeSort (fun x y => decide (x ≤ y))) ∧ Below w.heap.size (w.alloc (.cells #[.map (some b)] 43)) w' := by
  have hbl := hown.lt
  have hseq : SeqGives Fence.wide 2 Tryz.prog 50 #[.pointer (some ⟨w.heap.size, 0, none⟩)] encStr (fun ss => ss.Perm (strKeys D0)) (Maps.size D0) (w.alloc (.cells #[.map (some b)] 43)) :=
    AnyZ.keys_gives (ρ := keysB_ren) { keysB with } Fence.wide _ trivial rfl (by omega) w.heap.size b nn D0 _ (by simp) (by simp) (by
      obtain ⟨es, clock, hb, Ft, hs, hD⟩ := hown
      exact ⟨es, clock, (Below.heap_alloc _ _ b hbl).trans hb, Ft, hs, hD⟩)
  have h := (callsIn_wide (n := 5)).1 (AnyZ.sorted_in sortedS Fence.wide 5 trivial trivial trivial trivial rfl (by omega) (sortsM _) (enters_of Tryz.func49 (by kernel_rfl) rfl) 50 #[.pointer (some ⟨w.heap.size, 0, none⟩)] trivial (enters_of Tryz.func50 (by kernel_rfl) rfl) _ _ (by unfold maxLen; omega) (by omega) _ hseq)
  refine h.mono ?_
  rintro e w' ⟨v, ss, rfl, hp, hrow, _, hb⟩
  refine ⟨v, rfl, ?_, hb.mono (by simp)⟩
  rw [mergeSort_of_perm hp] at hrow
  have hl : ss.length = ((strKeys D0).mergeSort (fun x y => decide (x ≤ y))).length := by rw [List.length_mergeSort, hp.length_eq]
  rw [hl] at hrow
  exact SRow.low (show SRow w' _ v _ from hrow) (by simp)
set_option maxHeartbeats 1000000 in
theorem sortedI_any {H : Type} (b nn : Nat) (D0 : DataW H) (R : Value → Option (DataW H × List MemPlace)) (w : World) (hown : w.ownsMap Tryz.prog 9 R b nn D0) (hmax : Maps.size D0 ≤ 1000000) :
    Calls Tryz.prog 36 #[.func (.func 57) #[] #[.pointer (some ⟨w.heap.size, 0, none⟩)]] (w.alloc (.cells #[.map (some b)] 49)) fun e w' => ∃ v, e = .returned v ∧ SRow w' w.heap.size v ((strKeys D0).mergeSort (fun x y => decide (x ≤ y))) ∧ Below w.heap.size (w.alloc (.cells #[.map (some b)] 49)) w' := by
  have hbl := hown.lt
  have hseq : SeqGives Fence.wide 2 Tryz.prog 57 #[.pointer (some ⟨w.heap.size, 0, none⟩)] encStr (fun ss => ss.Perm (strKeys D0)) (Maps.size D0) (w.alloc (.cells #[.map (some b)] 49)) :=
    AnyZ.keys_gives (ρ := keysI_ren) { keysI with } Fence.wide _ trivial rfl (by omega) w.heap.size b nn D0 _ (by simp) (by simp) (by
      obtain ⟨es, clock, hb, Ft, hs, hD⟩ := hown
      exact ⟨es, clock, (Below.heap_alloc _ _ b hbl).trans hb, Ft, hs, hD⟩)
  have h := (callsIn_wide (n := 5)).1 (AnyZ.sorted_in sortedS Fence.wide 5 trivial trivial trivial trivial rfl (by omega) (sortsM _) (enters_of Tryz.func49 (by kernel_rfl) rfl) 57 #[.pointer (some ⟨w.heap.size, 0, none⟩)] trivial (enters_of Tryz.func57 (by kernel_rfl) rfl) _ _ (by unfold maxLen; omega) (by omega) _ hseq)
  refine h.mono ?_
  rintro e w' ⟨v, ss, rfl, hp, hrow, _, hb⟩
  refine ⟨v, rfl, ?_, hb.mono (by simp)⟩
  rw [mergeSort_of_perm hp] at hrow
  have hl : ss.length = ((strKeys D0).mergeSort (fun x y => decide (x ≤ y))).length := by rw [List.length_mergeSort, hp.length_eq]
  rw [hl] at hrow
  exact SRow.low (show SRow w' _ v _ from hrow) (by simp)
end Go.Proofs.YtdddcncjmnekcaaGreatDoor

/- Walks of the store: Sums; what a store has no text for. -/
set_option linter.unusedSimpArgs false
set_option linter.unusedVariables false
namespace Go.Proofs.YtdddcncjmnekcaaGreatDoor
open Go.RowKit Go.WideMaps Go.Maps Go.Sort Pl

theorem keys_perm {H : Type} {w : World} {R : Value → Option (DataW H × List MemPlace)} {b n : Nat} {D : DataW H} {ss : List Bs} (ho : w.ownsMap Tryz.prog 9 R b n D) (hn : ss.Nodup) (hm : ∀ k : Bs, Maps.has D (.string k) = decide (k ∈ ss)) : ss.Perm (strKeys D) :=
  Collected.perm (left := fun _ => false) ⟨hn, fun x => by simp [hm]⟩ ho keyedS Tryz.underlying9 (fun _ => rfl)
/-- Texts in order. -/
def sortB (l : List Bs) : List Bs := l.mergeSort (fun x y => decide (x ≤ y))
theorem sortB_perm (l : List Bs) : (sortB l).Perm l := List.mergeSort_perm _ _
theorem sortB_of {l m : List Bs} (h : l.Perm m) : sortB l = sortB m := mergeSort_of_perm h
set_option maxRecDepth 100000 in
set_option maxHeartbeats 1000000 in
theorem ssums_any (base p b : Nat) (T : List Ent) (hT : T.length ≤ 1000) (w : World) (h : Sto w base p b T) :
    Calls Tryz.prog 18 #[.pointer (some ⟨p, 0, none⟩)] w fun e w' => ∃ v, e = .returned v ∧ SRow w' w.heap.size v (sortB (keysE T)) ∧ Below w.heap.size w w' := by
  obtain ⟨D, ho, hD⟩ := h.own
  have hkb := keysB_any (some b)
  have hso := sortedB_any b _ D hR w ho (by rw [hD.size]; omega)
  have hp : sortB (strKeys D) = sortB (keysE T) := (sortB_of (keys_perm ho hD.nodup hD.has)).symm
  rw [show (strKeys D).mergeSort (fun x y => decide (x ≤ y)) = sortB (keysE T) from hp] at hso
  generalize sortB (keysE T) = L at *
  obtain ⟨b1, b2, b3⟩ := id h.blk
  clear h ho hD hp
  go_enter Tryz.func18, Tryz.ntmps18
  go_wp2_with fail
  refine (hkb _).mono ?_
  rintro e w1 ⟨rfl, rfl⟩
  go_wp2_with fail
  refine hso.mono ?_
  rintro e w2 ⟨v, rfl, hr, hb⟩
  go_wp2_with fail
  go_ret
  exact ⟨v, rfl, hr, (Below.allocS (Below.refl _ _) _).trans hb⟩
end Go.Proofs.YtdddcncjmnekcaaGreatDoor

/- Layer 8: a node as a value; the sums that it names. -/
set_option linter.unusedSimpArgs false
set_option linter.unusedVariables false
namespace Go.Proofs.YtdddcncjmnekcaaGreatDoor
open Go.RowKit Pl

/-- The cells of the kids, of a node. -/
def ka (kid : Nat → Bs) : List Value := (kidL kid).map fun s => .string ⟨List.toArray (s)⟩
def nd (kind : Int) (path val : Bs) (kid : Nat → Bs) : List Value := .int .i64 (kind) :: .string ⟨List.toArray (path)⟩ :: .string ⟨List.toArray (val)⟩ :: ka kid
theorem ka_len (kid : Nat → Bs) : (ka kid).length = 16 := by simp [ka, kidL]
theorem nd_len (kind : Int) (path val : Bs) (kid : Nat → Bs) : (nd kind path val kid).length = 19 := by simp [nd, ka_len]
theorem ka_at (kid : Nat → Bs) (k : Nat) (hk : k < 16) : (ka kid)[k]? = some (.string ⟨List.toArray (kid k)⟩) := by
  simp [ka, kidL, hk]
theorem nd_at (kind : Int) (path val : Bs) (kid : Nat → Bs) (k : Nat) (hk : k < 16) : (nd kind path val kid)[3 + k]? = some (.string ⟨List.toArray (kid k)⟩) := by
  have : (nd kind path val kid)[3 + k]? = (ka kid)[k]? := by
    rw [Nat.add_comm]; rfl
  rw [this, ka_at kid k hk]
@[go_sem, simp] theorem nd0 (kind : Int) (path val : Bs) (kid : Nat → Bs) : (nd kind path val kid).toArray[0]? = some (.int .i64 (kind)) := rfl
@[go_sem, simp] theorem nd1 (kind : Int) (path val : Bs) (kid : Nat → Bs) : (nd kind path val kid).toArray[1]? = some (.string ⟨List.toArray (path)⟩) := rfl
@[go_sem, simp] theorem nd2 (kind : Int) (path val : Bs) (kid : Nat → Bs) : (nd kind path val kid).toArray[2]? = some (.string ⟨List.toArray (val)⟩) := rfl
@[go_sem, simp] theorem nd3 (kind : Int) (path val : Bs) (kid : Nat → Bs) : (nd kind path val kid).toArray[3]? = some (.string ⟨List.toArray (kid 0)⟩) := rfl
@[go_sem, simp] theorem nd0g (kind : Int) (path val : Bs) (kid : Nat → Bs) (h : 0 < (nd kind path val kid).length) : (nd kind path val kid)[0]'h = .int .i64 (kind) := rfl
@[go_sem, simp] theorem nd1g (kind : Int) (path val : Bs) (kid : Nat → Bs) (h : 1 < (nd kind path val kid).length) : (nd kind path val kid)[1]'h = .string ⟨List.toArray (path)⟩ := rfl
@[go_sem, simp] theorem nd2g (kind : Int) (path val : Bs) (kid : Nat → Bs) (h : 2 < (nd kind path val kid).length) : (nd kind path val kid)[2]'h = .string ⟨List.toArray (val)⟩ := rfl
@[go_sem, simp] theorem nd3g (kind : Int) (path val : Bs) (kid : Nat → Bs) (h : 3 < (nd kind path val kid).length) : (nd kind path val kid)[3]'h = .string ⟨List.toArray (kid 0)⟩ := rfl
@[go_sem, simp] theorem ka_size (kid : Nat → Bs) : (ka kid).toArray.size = 16 := by simp [ka_len]
@[go_sem, simp] theorem nd_size (kind : Int) (path val : Bs) (kid : Nat → Bs) : (nd kind path val kid).toArray.size = 19 := by simp [nd_len]
@[go_sem, simp] theorem ka_size' (kid : Nat → Bs) : (ka kid).length = 16 := ka_len kid
@[go_sem, simp] theorem nd_size' (kind : Int) (path val : Bs) (kid : Nat → Bs) : (nd kind path val kid).length = 19 := nd_len kind path val kid

theorem nd_range {w : World} {b : Nat} {kind : Int} {path val : Bs} {kid : Nat → Bs} (h : Blk w b (nd kind path val kid).toArray) : w.rangeAt b 0 (nd kind path val kid) := by
  intro j v hv
  rw [Nat.zero_add, h.cell j]
  simpa using hv
theorem ka_range {w : World} {b : Nat} {kind : Int} {path val : Bs} {kid : Nat → Bs} (h : Blk w b (nd kind path val kid).toArray) : w.rangeAt b 3 (ka kid) := by
  intro j v hv
  rw [h.cell (3 + j)]
  have : (nd kind path val kid)[3 + j]? = (ka kid)[j]? := by
    rw [Nat.add_comm]; rfl
  simpa [this] using hv
theorem blk_kid {w : World} {b : Nat} {kind : Int} {path val : Bs} {kid : Nat → Bs} (h : Blk w b (nd kind path val kid).toArray) (k : Nat) (hk : k < 16) : w.cell? ⟨b, 3 + k, none⟩ = some (.string ⟨List.toArray (kid k)⟩) := by
  rw [h.cell]
  simpa using nd_at kind path val kid k hk
theorem nd_info : (Tryz.prog.info? 69).map (·.size) = some 19 := by kernel_rfl
theorem ka_info : (Tryz.prog.info? 67).map (·.size) = some 16 := by kernel_rfl

section
variable {ops : Array Oper} {rest : List Oper} {op : Oper} {a : Act} {w : World} {Q : Exit → Act → World → Prop}
/-- The whole node is loaded. -/
theorem wpList_node (hgd : op.guard = none) (x : Operand) (ho : op.op = .load 69 x) {b : Nat} (hx : a.eval x = .pointer (some ⟨b, 0, none⟩)) {kind : Int} {path val : Bs} {kid : Nat → Bs} (hB : Blk w b (nd kind path val kid).toArray)
    (h : wpList Tryz.prog ops Q rest (a.put op.dst (.agg (nd kind path val kid).toArray)) w) : wpList Tryz.prog ops Q (op :: rest) a w :=
  wpList_load_mid hgd 69 x ho b 0 hx (nd kind path val kid) _ (nd_range hB) Tryz.underlying69 rfl (by rw [nd_len]; exact nd_info) h
/-- Its kids are. -/
theorem wpList_kidsArr (hgd : op.guard = none) (x : Operand) (ho : op.op = .load 67 x) {b : Nat} (hx : a.eval x = .pointer (some ⟨b, 3, none⟩)) {kind : Int} {path val : Bs} {kid : Nat → Bs} (hB : Blk w b (nd kind path val kid).toArray)
    (h : wpList Tryz.prog ops Q rest (a.put op.dst (.agg (ka kid).toArray)) w) : wpList Tryz.prog ops Q (op :: rest) a w :=
  wpList_load_mid hgd 67 x ho b 3 hx (ka kid) _ (ka_range hB) Tryz.underlying67 rfl (by rw [ka_len]; exact ka_info) h
end

theorem kid_index (kid : Nat → Bs) (k : Nat) (hk : k < 16) (w : World) : (Instr.index 67 (.agg (ka kid).toArray) (.int .i64 (k : Int))).run Tryz.prog w = .ok (.string ⟨List.toArray (kid k)⟩) w := by
  obtain ⟨i0, hi, _, hs, _⟩ := info_parts infoStr
  have hp : (Tryz.prog).plainKey 9 = true := by simp [Program.plainKey, Tryz.underlying9]
  have hpart := run_part_plain (P := Tryz.prog) w hp (off := k) (xs := (ka kid).toArray) (by simpa using ka_at kid k hk)
  have hsz : (Go.sizeOf 9).run Tryz.prog w = .ok 1 w := by simp [Go.sizeOf, typeInfo, hi, hs]
  have hk' : (0 : Int) ≤ (k : Int) ∧ (k : Int) < 16 := by omega
  simp [Instr.index, asIntOf, run_underlying Tryz.underlying67, hk', hsz, hpart, Sem.run_bind]
  intro h
  omega

set_option maxRecDepth 100000 in
set_option maxHeartbeats 1000000 in
theorem kids_any (kind : Int) (path val : Bs) (kid : Nat → Bs) (w : World) :
    Calls Tryz.prog 35 #[.agg (nd kind path val kid).toArray] w fun e w' => ∃ (x : Option Addr) (cap : Nat), e = .returned (.slice x (kidsF kid).length cap) ∧ SRow w' w.heap.size (.slice x (kidsF kid).length cap) (kidsF kid) ∧ Below w.heap.size w w' := by
  have hB := Blk.new w (nd kind path val kid).toArray 69
  go_enter Tryz.func35, Tryz.ntmps35
  go_wp2_with (refine wpList_kidsArr rfl (.tmp 6) rfl rfl hB ?_)
  go_loopw [3, 8] (fun s3 s8 wr => ∃ k : Nat, k ≤ 16 ∧ s8 = .int .i64 k ∧ SRow wr w.heap.size s3 (kidsTo kid k) ∧ Below w.heap.size w wr) (fun _ s8 _ => 16 - (intOf s8).toNat)
  case atStart => exact ⟨0, by omega, rfl, SRow.nil _ _, by (repeat (first | exact Below.refl _ _ | assumption | apply Below.drew | apply below_drewN | apply Below.allocS | (refine Below.setCell ?_ (by simp <;> omega) _) | (refine Below.alloc ?_ (by simp <;> omega) _) | (refine Below.trans ?_ (Below.mono (by assumption) (by simp <;> omega)))))⟩
  case round =>
    obtain ⟨k, hk, rfl, hS, hb⟩ := hrel
    rename_i wr
    clear hB
    by_cases hlt : k < 16
    · have hki := kid_index kid k hlt
      have hlt' : (k : Int) < 16 := by omega
      have hkl := kidsTo_len kid k
      have HKS := Lib.hid (kidsTo_succ kid k)
      by_cases he : kid k = []
      · have HK : Hid (kidsTo kid (k + 1) = kidsTo kid k) := Lib.hid (by rw [HKS.out, if_pos he]; simp)
        rw [he] at hki
        have HE := Lib.hid he
        clear he
        go_wp2_with fail
        exact ⟨⟨k + 1, by omega, by go_num, by rw [HK.out]; exact hS, hb⟩, by simp [intOf]; omega⟩
      · have HK : Hid (kidsTo kid (k + 1) = kidsTo kid k ++ [kid k]) := Lib.hid (by rw [HKS.out, if_neg he])
        have he1 : (kid k).isEmpty = false := by simpa using he
        go_wp2_with (at_builtin; refine wpList_appS rfl (.tmp 13) (.tmp 15) rfl w.heap.size _ (kidsTo kid k) rfl (hS.alloc _) wr.heap.size 0 1 1 [kid k] rfl rfl (ssrc1 _ _ _) (by omega) (by have := hb.size; simp; omega) ?_; rintro v' w2 hS2 hb2)
        exact ⟨⟨k + 1, by omega, by go_num, by rw [HK.out]; exact hS2, (Below.allocS hb _).trans hb2⟩, by simp [intOf]; omega⟩
    · have hke : k = 16 := by omega
      subst hke
      go_wp2_with fail
      go_ret
      obtain ⟨x, cap, hv⟩ := hS.form
      rw [hv] at hS
      exact ⟨x, cap, congrArg Ending.returned hv, hS, hb⟩

end Go.Proofs.YtdddcncjmnekcaaGreatDoor
