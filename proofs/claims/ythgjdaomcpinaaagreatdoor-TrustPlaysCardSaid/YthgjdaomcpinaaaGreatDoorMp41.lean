/- RLaw, RBrok. -/
import Derived.Test.YthgjdaomcpinaaaGreatDoorMp38
import Derived.Test.YthgjdaomcpinaaaGreatDoorMp39
import Derived.Test.YthgjdaomcpinaaaGreatDoorMp40
set_option linter.unnecessarySimpa false
set_option linter.unusedSimpArgs false
set_option linter.unusedVariables false
set_option maxRecDepth 100000
set_option maxHeartbeats 32000000
namespace Go.Proofs.YthgjdaomcpinaaaGreatDoor
open Go.RowKit Go.WideMaps Go.Maps Go.Sort Go.Shelf Pl
def Up (l : List Tr) : Prop := l.Pairwise (fun a b => a.head.height < b.head.height)
theorem find_split (h : Int) : ∀ l, Up l → ∃ A C, l = A ++ C ∧ findN h l = A.length ∧ (∀ t ∈ A, t.head.height < h) ∧
  (thereL h l = true → ∃ o C', C = o :: C' ∧ o.head.height = h ∧ ∀ t ∈ C', h < t.head.height) ∧ (thereL h l = false → ∀ t ∈ C, h < t.head.height)
 | [], _ => ⟨[], [], rfl, rfl, fun t ht => (by cases ht), fun h => (by cases h), fun _ t ht => (by cases ht)⟩
 | t :: r, hu => by
  unfold Up at hu
  rw [List.pairwise_cons] at hu
  by_cases hc : t.head.height < h
  ·obtain ⟨A, C, e1, e2, e3, e4, e5⟩ := find_split h r hu.2
   obtain ⟨f1, f2⟩ := find_below (r := r) hc
   refine ⟨t :: A, C, by rw [e1]; rfl, by rw [f1, e2]; rfl, fun u hu => ?_, by rw [f2]; exact e4, by rw [f2]; exact e5⟩
   rcases List.mem_cons.1 hu with rfl | hu
   ·exact hc
   ·exact e3 u hu
  ·obtain ⟨f1, f2⟩ := find_here (r := r) hc
   refine ⟨[], t :: r, rfl, f1, fun u hu => (by cases hu), fun ht => ?_, fun ht => ?_⟩
   ·rw [f2] at ht
    have he : t.head.height = h := by simpa using ht
    exact ⟨t, r, rfl, he, fun u hu2 => by have := hu.1 u hu2; omega⟩
   ·rw [f2] at ht
    have he : t.head.height ≠ h := by simpa using ht
    intro u hu2
    rcases List.mem_cons.1 hu2 with rfl | hu2
    ·omega
    ·have := hu.1 u hu2; omega
theorem there_iff {h : Int} {l : List Tr} (hu : Up l) : thereL h l = true ↔ ∃ t ∈ l, t.head.height = h := by
 refine ⟨thereL_mem h l, ?_⟩
 rintro ⟨t, ht, he⟩
 obtain ⟨A, C, e1, e2, e3, e4, e5⟩ := find_split h l hu
 cases hc : thereL h l
 ·rw [e1] at ht
  rcases List.mem_append.1 ht with ht | ht
  ·have := e3 t ht; omega
  ·have := e5 hc t ht; omega
 ·rfl
theorem there_get {h : Int} {l : List Tr} (hu : Up l) (ht : thereL h l = true) : ∃ o, l[findN h l]? = some o ∧ o ∈ l ∧ o.head.height = h := by
 obtain ⟨A, C, e1, e2, e3, e4, e5⟩ := find_split h l hu
 obtain ⟨o, C', rfl, ho, hC⟩ := e4 ht
 refine ⟨o, ?_, ?_, ho⟩
 ·rw [e2, e1, List.getElem?_append_right (Nat.le_refl _), Nat.sub_self]
  rfl
 ·rw [e1]; exact List.mem_append.2 (.inr List.mem_cons_self)
theorem with_form {l : List Tr} (hu : Up l) (t : Tr) : ∃ A C, withL l t = A ++ t :: C ∧ (∀ u ∈ A, u.head.height < t.head.height) ∧ (∀ u ∈ C, t.head.height < u.head.height) ∧ Up A ∧ Up C ∧ ∀ u, (u ∈ A ∨ u ∈ C) ↔ (u ∈ l ∧ u.head.height ≠ t.head.height) := by
 obtain ⟨A, C, e1, e2, e3, e4, e5⟩ := find_split t.head.height l hu
 have hu2 := hu
 unfold Up at hu2
 rw [e1, List.pairwise_append] at hu2
 unfold withL
 rw [e2]
 cases hc : thereL t.head.height l
 ·have h5 := e5 hc
  refine ⟨A, C, ?_, e3, h5, hu2.1, hu2.2.1, fun u => ?_⟩
  ·rw [if_neg (by simp), Nat.add_zero, e1, List.take_left, List.drop_left]
   simp
  ·rw [e1, List.mem_append]
   constructor
   ·rintro (h | h)
    ·have := e3 u h; exact ⟨.inl h, by omega⟩
    ·have := h5 u h; exact ⟨.inr h, by omega⟩
   ·rintro ⟨h, _⟩; exact h
 ·obtain ⟨o, C', rfl, ho, hC⟩ := e4 hc
  refine ⟨A, C', ?_, e3, hC, hu2.1, (List.pairwise_cons.1 hu2.2.1).2, fun u => ?_⟩
  ·rw [if_pos rfl, e1, List.take_left, ← List.drop_drop, List.drop_left]
   simp
  ·rw [e1, List.mem_append, List.mem_cons]
   constructor
   ·rintro (h | h)
    ·have := e3 u h; exact ⟨.inl h, by omega⟩
    ·have := hC u h; exact ⟨.inr (.inr h), by omega⟩
   ·rintro ⟨h | rfl | h, hne⟩
    ·exact .inl h
    ·exact absurd ho hne
    ·exact .inr h
theorem with_up {l : List Tr} (hu : Up l) (t : Tr) : Up (withL l t) := by
 obtain ⟨A, C, e, h1, h2, h3, h4, _⟩ := with_form hu t
 unfold Up at h3 h4 ⊢
 rw [e, List.pairwise_append, List.pairwise_cons]
 refine ⟨h3, ⟨h2, h4⟩, fun a ha b hb => ?_⟩
 have := h1 a ha
 rcases List.mem_cons.1 hb with rfl | hb
 ·exact this
 ·have := h2 b hb; omega
theorem with_mem {l : List Tr} (hu : Up l) (t u : Tr) : u ∈ withL l t ↔ u = t ∨ (u ∈ l ∧ u.head.height ≠ t.head.height) := by
 obtain ⟨A, C, e, h1, h2, h3, h4, h5⟩ := with_form hu t
 rw [e, List.mem_append, List.mem_cons, ← h5]
 constructor
 ·rintro (h | h | h)
  ·exact .inr (.inl h)
  ·exact .inl h
  ·exact .inr (.inr h)
 ·rintro (h | h | h)
  ·exact .inr (.inl h)
  ·exact .inl h
  ·exact .inr (.inr h)
theorem without_form {l : List Tr} {h : Int} (hu : Up l) (hc : thereL h l = true) : ∃ A C, withoutL l h = A ++ C ∧ (∀ u ∈ A, u.head.height < h) ∧ (∀ u ∈ C, h < u.head.height) ∧ Up A ∧ Up C ∧ ∀ u, (u ∈ A ∨ u ∈ C) ↔ (u ∈ l ∧ u.head.height ≠ h) := by
 obtain ⟨A, C, e1, e2, e3, e4, e5⟩ := find_split h l hu
 have hu2 := hu
 unfold Up at hu2
 rw [e1, List.pairwise_append] at hu2
 unfold withoutL
 rw [e2]
 obtain ⟨o, C', rfl, ho, hC⟩ := e4 hc
 refine ⟨A, C', ?_, e3, hC, hu2.1, (List.pairwise_cons.1 hu2.2.1).2, fun u => ?_⟩
 ·rw [e1, List.take_left, ← List.drop_drop, List.drop_left]
  rfl
 ·rw [e1, List.mem_append, List.mem_cons]
  constructor
  ·rintro (h | h)
   ·have := e3 u h; exact ⟨.inl h, by omega⟩
   ·have := hC u h; exact ⟨.inr (.inr h), by omega⟩
  ·rintro ⟨h | rfl | h, hne⟩
   ·exact .inl h
   ·exact absurd ho hne
   ·exact .inr h
theorem without_up {l : List Tr} {h : Int} (hu : Up l) (hc : thereL h l = true) : Up (withoutL l h) := by
 obtain ⟨A, C, e, h1, h2, h3, h4, _⟩ := without_form hu hc
 unfold Up at h3 h4 ⊢
 rw [e, List.pairwise_append]
 exact ⟨h3, h4, fun a ha b hb => by have := h1 a ha; have := h2 b hb; omega⟩
theorem without_mem {l : List Tr} {h : Int} (hu : Up l) (hc : thereL h l = true) (u : Tr) : u ∈ withoutL l h ↔ u ∈ l ∧ u.head.height ≠ h := by
 obtain ⟨A, C, e, h1, h2, h3, h4, h5⟩ := without_form hu hc
 rw [e, List.mem_append, h5]
theorem up_same : ∀ {l m : List Tr}, Up l → Up m → (∀ t, t ∈ l ↔ t ∈ m) → l = m
 | [], [], _, _, _ => rfl
 | [], b :: m, _, _, h => by have := (h b).2 List.mem_cons_self; cases this
 | a :: l, [], _, _, h => by have := (h a).1 List.mem_cons_self; cases this
 | a :: l, b :: m, hl, hm, h => by
  unfold Up at hl hm
  rw [List.pairwise_cons] at hl hm
  have hab : a = b := by
   rcases List.mem_cons.1 ((h a).1 List.mem_cons_self) with e | h1
   ·exact e
   ·rcases List.mem_cons.1 ((h b).2 List.mem_cons_self) with e | h2
    ·exact e.symm
    ·have := hm.1 a h1; have := hl.1 b h2; omega
  subst hab
  rw [up_same hl.2 hm.2 (fun t => ?_)]
  constructor
  ·intro ht
   rcases List.mem_cons.1 ((h t).1 (List.mem_cons_of_mem _ ht)) with e | h1
   ·subst e; have := hl.1 t ht; omega
   ·exact h1
  ·intro ht
   rcases List.mem_cons.1 ((h t).2 (List.mem_cons_of_mem _ ht)) with e | h1
   ·subst e; have := hm.1 t ht; omega
   ·exact h1
structure Im (l : List Tr) (T : List (Int × Tr)) : Prop where
 up : Up l
 mem : ∀ t, t ∈ l ↔ lookK T t.head.height = some t
 key : ∀ k t, lookK T k = some t → t.head.height = k
theorem Im.nil : Im [] [] := ⟨List.Pairwise.nil, fun t => ⟨fun h => (by cases h), fun h => (by cases h)⟩, fun k t h => (by cases h)⟩
theorem Im.with {l : List Tr} {T : List (Int × Tr)} (h : Im l T) (t : Tr) : Im (withL l t) (putK T t.head.height t) := by
 refine ⟨with_up h.up t, fun u => ?_, fun k u hk => ?_⟩
 ·rw [with_mem h.up, look_put, h.mem]
  by_cases he : u.head.height = t.head.height
  ·rw [if_pos he]
   constructor
   ·rintro (e | ⟨_, e⟩)
    ·rw [e]
    ·exact absurd he e
   ·intro e; injection e with e; exact .inl e.symm
  ·rw [if_neg he]
   constructor
   ·rintro (e | ⟨e, _⟩)
    ·exact absurd (by rw [e]) he
    ·exact e
   ·intro e; exact .inr ⟨e, he⟩
 ·rw [look_put] at hk
  split at hk
  ·rename_i e
   injection hk with hk
   rw [← hk, e]
  ·exact h.key k u hk
theorem Im.there {l : List Tr} {T : List (Int × Tr)} (h : Im l T) (k : Int) : thereL k l = true ↔ k ∈ hts T := by
 rw [there_iff h.up]
 constructor
 ·rintro ⟨t, ht, rfl⟩
  rw [h.mem] at ht
  refine Classical.byContradiction fun hn => ?_
  rw [look_none.2 hn] at ht
  cases ht
 ·intro hk
  cases hl : lookK T k with
  | none => exact absurd hk (look_none.1 hl)
  | some t =>
   have he := h.key k t hl
   exact ⟨t, (h.mem t).2 (by rw [he]; exact hl), he⟩
theorem Im.without {l : List Tr} {T : List (Int × Tr)} (h : Im l T) {k : Int} (hc : thereL k l = true) : Im (withoutL l k) (delK T k) := by
 refine ⟨without_up h.up hc, fun u => ?_, fun k2 u hk => ?_⟩
 ·rw [without_mem h.up hc, look_del, h.mem]
  by_cases he : u.head.height = k
  ·rw [if_pos he]
   exact ⟨fun h => absurd he h.2, fun h => by cases h⟩
  ·rw [if_neg he]
   exact ⟨fun h => h.1, fun h => ⟨h, he⟩⟩
 ·rw [look_del] at hk
  split at hk
  ·cases hk
  ·exact h.key k2 u hk
theorem Im.get {l : List Tr} {T : List (Int × Tr)} (h : Im l T) {k : Int} {t : Tr} (ht : lookK T k = some t) : thereL k l = true ∧ l[findN k l]? = some t := by
 have he := h.key k t ht
 have hm : t ∈ l := (h.mem t).2 (by rw [he]; exact ht)
 have hc := (there_iff h.up).2 ⟨t, hm, he⟩
 obtain ⟨o, ho, hol, hoh⟩ := there_get h.up hc
 have h2 := (h.mem o).1 hol
 rw [hoh, ht] at h2
 injection h2 with h2
 exact ⟨hc, by rw [h2]; exact ho⟩
theorem Im.same {l m : List Tr} {T : List (Int × Tr)} (h : Im l T) (h2 : Im m T) : l = m := up_same h.up h2.up (fun t => by rw [h.mem, h2.mem])
theorem Im.drops : ∀ (hs : List Int) {l : List Tr} {T : List (Int × Tr)}, Im l T → (rdropG hs l = none ∧ dropsT hs T = none) ∨ ∃ l' T', rdropG hs l = some l' ∧ dropsT hs T = some T' ∧ Im l' T'
 | [], l, T, h => .inr ⟨l, T, rfl, rfl, h⟩
 | k :: r, l, T, h => by
  cases hc : thereL k l
  ·refine .inl ⟨rdropG_no hc, ?_⟩
   unfold dropsT
   rw [if_neg]
   intro hk
   rw [(h.there k).2 hk] at hc
   cases hc
  ·have hk : k ∈ T.map (fun x => x.1) := (h.there k).1 hc
   rw [rdropG_yes hc, dropsT, if_pos hk]
   exact Im.drops r (h.without hc)
theorem Im.clash {l : List Tr} {T : List (Int × Tr)} (h : Im l T) (hn : (hts T).Nodup) (hf : ∀ u ∈ l, fineT u = true) {t : Tr} (ht : fineT t = true) : clashL l t = clashT T t := by
 cases hl : lookK T t.head.height with
 | none =>
  have hk := look_none.1 hl
  rw [clashT_new hk]
  refine clashL_new ?_
  cases hc : thereL t.head.height l
  ·rfl
  ·exact absurd ((h.there _).1 hc) hk
 | some o =>
  obtain ⟨h1, h2⟩ := h.get hl
  have ho := hf o (List.mem_of_getElem? h2)
  rw [clashL_old h1 h2, clashT_there hn (look_mem hl), encHR_yes (fineT_parts ho).1, encHR_yes (fineT_parts ht).1]
  simp only
  cases hx : decide (writH o.head = writH t.head)
  ·have : writH o.head ≠ writH t.head := by simpa using hx
   simpa using this
  ·have : writH o.head = writH t.head := by simpa using hx
   rw [this]
   simp
theorem Im.adds : ∀ (ts : List Tr) {l : List Tr} {T : List (Int × Tr)}, Im l T → (hts T).Nodup → (∀ u ∈ l, fineT u = true) → ts.all fineT = true → (raddG ts l = none ∧ addsT ts T = none) ∨ ∃ l' T', raddG ts l = some l' ∧ addsT ts T = some T' ∧ Im l' T' ∧ (hts T').Nodup ∧ (∀ u ∈ l', fineT u = true)
 | [], l, T, h, hn, hf, _ => .inr ⟨l, T, rfl, rfl, h, hn, hf⟩
 | t :: r, l, T, h, hn, hf, ha => by
  simp only [List.all_cons, Bool.and_eq_true] at ha
  have hc := h.clash hn hf ha.1
  cases hx : clashL l t
  ·rw [hx] at hc
   rw [raddG_yes hx, addsT_step hc.symm]
   exact Im.adds r (h.with t) (put_nodup hn _ t) (fun u hu => by
    rcases withL_mem hu with hu | rfl
    ·exact hf u hu
    ·exact ha.1) ha.2
  ·rw [hx] at hc
   exact .inl ⟨raddG_no hx, addsT_clash hc.symm⟩
theorem im_img {T : List (Int × Tr)} (hn : (hts T).Nodup) (hk : ∀ k t, lookK T k = some t → t.head.height = k) : Im (imgT T) T := by
 have hin : ∀ k ∈ sortZ (hts T), ∃ t, lookK T k = some t := fun k h => by
  obtain ⟨t, ht⟩ := hts_mem (sortZ_mem.1 h)
  exact ⟨t, lookK_in hn ht⟩
 refine ⟨?_, fun t => ?_, hk⟩
 ·unfold Up imgT imgL
  rw [List.pairwise_map]
  refine (strict_of (sortZ_sorted _) (sortZ_nodup hn)).imp_of_mem (fun {a b} ha hb hlt => ?_)
  obtain ⟨t, ht⟩ := hin a ha
  obtain ⟨u, hu⟩ := hin b hb
  rw [ht, hu, Option.getD_some, Option.getD_some, hk a t ht, hk b u hu]
  exact hlt
 ·rw [img_mem hn]
  exact ⟨fun ⟨k, h⟩ => by rw [hk k t h]; exact h, fun h => ⟨_, h⟩⟩
theorem Im.img {l : List Tr} {T : List (Int × Tr)} (h : Im l T) (hn : (hts T).Nodup) : l = imgT T := h.same (im_img hn h.key)
theorem stale_same {sp now : Int} {t : Tr} (hs : 0 ≤ sp) (h : 0 ≤ t.at_) : staleR sp now t = staleT sp now t := by
 unfold staleR staleT
 rw [Bool.eq_iff_iff]
 simp only [Bool.and_eq_true, decide_eq_true_eq]
 omega
theorem firstT_app (T : List (Int × Tr)) (sp now : Int) : ∀ a b, firstT T sp now (a ++ b) = (firstT T sp now a).or (firstT T sp now b)
 | [], b => by simp [firstT]
 | k :: r, b => by
  rw [List.cons_append, firstT, firstT]
  cases lookK T k with
  | none => exact firstT_app T sp now r b
  | some t =>
   simp only
   split
   ·exact firstT_app T sp now r b
   ·rfl
theorem best_first (T : List (Int × Tr)) (sp now : Int) : ∀ (ks : List Int) (o : Option Tr), (∀ k ∈ ks, ∃ t, lookK T k = some t ∧ staleR sp now t = staleT sp now t) → bestG sp now o (imgL T ks) = (firstT T sp now ks.reverse).or o
 | [], o, _ => by simp [firstT, imgL, bestG]
 | k :: r, o, h => by
  obtain ⟨t, ht, hs⟩ := h k List.mem_cons_self
  have e : imgL T (k :: r) = t :: imgL T r := by unfold imgL; rw [List.map_cons, ht]; rfl
  rw [e, bestG_cons, best_first T sp now r _ (fun x hx => h x (List.mem_cons_of_mem _ hx)), List.reverse_cons, firstT_app, Option.or_assoc, hs]
  congr 1
  rw [firstT, ht]
  simp only
  split <;> simp [firstT]
theorem best_same {T : List (Int × Tr)} (hn : (hts T).Nodup) {sp now : Int} (hs : 0 ≤ sp) (ha : ∀ k t, lookK T k = some t → 0 ≤ t.at_) : bestR (imgT T) sp now = (firstT T sp now (sortZ (hts T)).reverse, firstC (firstT T sp now (sortZ (hts T)).reverse) (sortZ (hts T)).reverse) := by
 have hb := best_first T sp now (sortZ (hts T)) none (fun k hk => by
  obtain ⟨t, ht⟩ := hts_mem (sortZ_mem.1 hk)
  exact ⟨t, lookK_in hn ht, stale_same hs (ha k t (lookK_in hn ht))⟩)
 rw [Option.or_none] at hb
 change bestG sp now none (imgT T) = _ at hb
 by_cases h0 : imgT T = []
 ·have hz : sortZ (hts T) = [] := List.length_eq_zero_iff.1 (by rw [← imgL_len T, show imgL T (sortZ (hts T)) = imgT T from rfl, h0]; rfl)
  rw [h0, bestR_nil, hz]
  rfl
 ·have hz : (sortZ (hts T)).reverse ≠ [] := fun e => h0 (List.length_eq_zero_iff.1 (by rw [show imgT T = imgL T (sortZ (hts T)) from rfl, imgL_len, ← List.length_reverse, e]; rfl))
  cases hf : firstT T sp now (sortZ (hts T)).reverse with
  | none => rw [bestR_none h0 (hb.trans hf)]; unfold firstC; rw [if_neg hz]
  | some t => rw [bestR_some h0 (hb.trans hf)]; rfl
theorem ab_high {T : List (Int × Tr)} {sp now h : Int} : ∀ (ks : List Int) (c : Int), (∀ k ∈ ks, h ≤ k ∧ ∃ t, lookK T k = some t ∧ t.head.height = k ∧ staleR sp now t = staleT sp now t) →
  abR sp now h c (imgL T ks) = (firstT T sp now ks, match firstT T sp now ks with | some _ => 0 | none => if ks = [] then c else 330)
 | [], c, _ => rfl
 | k :: r, c, hh => by
  obtain ⟨hk, t, ht, hd, hs⟩ := hh k List.mem_cons_self
  have e : imgL T (k :: r) = t :: imgL T r := by unfold imgL; rw [List.map_cons, ht]; rfl
  rw [e, abR_high (by omega), hs, firstT, ht]
  simp only
  cases hst : staleT sp now t
  ·rw [if_neg (by simp), if_neg (by simp)]
  ·rw [if_pos rfl, if_pos rfl, ab_high r 330 (fun x hx => hh x (List.mem_cons_of_mem _ hx))]
   cases firstT T sp now r with
   | some _ => rfl
   | none => simp
theorem ab_drop {T : List (Int × Tr)} {sp now h c : Int} : ∀ (ks : List Int), ks.Pairwise (· ≤ ·) → (∀ k ∈ ks, ∃ t, lookK T k = some t ∧ t.head.height = k) → abR sp now h c (imgL T ks) = abR sp now h c (imgL T (ks.drop (ks.countP (· < h))))
 | [], _, _ => rfl
 | k :: r, hp, hh => by
  rw [List.pairwise_cons] at hp
  obtain ⟨t, ht, hd⟩ := hh k List.mem_cons_self
  have e : imgL T (k :: r) = t :: imgL T r := by unfold imgL; rw [List.map_cons, ht]; rfl
  by_cases hk : k < h
  ·rw [List.countP_cons_of_pos (by simpa using hk), List.drop_succ_cons, ← ab_drop r hp.2 (fun x hx => hh x (List.mem_cons_of_mem _ hx)), e, abR_low (by omega)]
  ·have h0 : (k :: r).countP (· < h) = 0 := by
    rw [List.countP_eq_zero]
    intro x hx
    rcases List.mem_cons.1 hx with rfl | hx
    ·simpa using hk
    ·have := hp.1 x hx; simp; omega
   rw [h0]
   rfl
theorem above_same {T : List (Int × Tr)} (hn : (hts T).Nodup) (hk : ∀ k t, lookK T k = some t → t.head.height = k) {sp now : Int} (hs : 0 ≤ sp) (ha : ∀ k t, lookK T k = some t → 0 ≤ t.at_) (h : Int) :
  abR sp now h 5 (imgT T) = (firstT T sp now ((sortZ (hts T)).drop ((sortZ (hts T)).countP (· < h))), firstC (firstT T sp now ((sortZ (hts T)).drop ((sortZ (hts T)).countP (· < h)))) ((sortZ (hts T)).drop ((sortZ (hts T)).countP (· < h)))) := by
 have hin : ∀ k ∈ sortZ (hts T), ∃ t, lookK T k = some t := fun k h => by
  obtain ⟨t, ht⟩ := hts_mem (sortZ_mem.1 h)
  exact ⟨t, lookK_in hn ht⟩
 have hlo : ∀ (ks : List Int), ks.Pairwise (· ≤ ·) → ∀ x ∈ ks.drop (ks.countP (· < h)), h ≤ x := by
  intro ks
  induction ks with
  | nil => intro _ x hx; simp at hx
  | cons k r ih =>
   intro hp x hx
   rw [List.pairwise_cons] at hp
   by_cases hk : k < h
   ·rw [List.countP_cons_of_pos (by simpa using hk), List.drop_succ_cons] at hx
    exact ih hp.2 x hx
   ·have hx2 := List.mem_of_mem_drop hx
    rcases List.mem_cons.1 hx2 with rfl | hx2
    ·omega
    ·have := hp.1 x hx2; omega
 rw [show imgT T = imgL T (sortZ (hts T)) from rfl, ab_drop _ (sortZ_sorted _) (fun k hk2 => by obtain ⟨t, ht⟩ := hin k hk2; exact ⟨t, ht, hk k t ht⟩), ab_high _ 5 (fun k hk2 => by
  obtain ⟨t, ht⟩ := hin k (List.mem_of_mem_drop hk2)
  exact ⟨hlo _ (sortZ_sorted _) k hk2, t, ht, hk k t ht, stale_same hs (ha k t ht)⟩)]
 rfl
theorem trim_same {T : List (Int × Tr)} (hn : (hts T).Nodup) (hk : ∀ k t, lookK T k = some t → t.head.height = k) {sp now most : Int} (hs : 0 ≤ sp) (ha : ∀ k t, lookK T k = some t → 0 ≤ t.at_) : rtrimG (imgT T) sp now most (imgT T).length 0 [] = goneG T sp now most := by
 have hin : ∀ k ∈ sortZ (hts T), ∃ t, lookK T k = some t := fun k h => by
  obtain ⟨t, ht⟩ := hts_mem (sortZ_mem.1 h)
  exact ⟨t, lookK_in hn ht⟩
 have key : ∀ (i st : Nat) (g : List Int), i ≤ (imgT T).length → (i = (imgT T).length ↔ st = 0) → rtrimG (imgT T) sp now most i st g = (goneL (freshK T sp now) most st ((sortZ (hts T)).take i).reverse).reverse ++ g := by
  intro i
  induction i with
  | zero => intro st g _ _; rfl
  | succ i ih =>
   intro st g hi hz
   have hil : i < (sortZ (hts T)).length := by
    rw [show imgT T = imgL T (sortZ (hts T)) from rfl, imgL_len] at hi
    omega
   obtain ⟨t, ht⟩ := hin (sortZ (hts T))[i] (List.getElem_mem _)
   have hget : (imgT T)[i]? = some t := by
    unfold imgT imgL
    rw [List.getElem?_map, List.getElem?_eq_getElem hil, Option.map_some, ht]
    rfl
   have hd := hk _ t ht
   have hst := stale_same (now := now) hs (ha _ t ht)
   have hfr : freshK T sp now (sortZ (hts T))[i] = !staleT sp now t := fresh_some ht
   rw [List.take_succ_eq_append_getElem hil, List.reverse_append, List.reverse_cons, List.reverse_nil, List.nil_append, List.cons_append, List.nil_append, goneL, hfr]
   by_cases hc : i + 1 = (imgT T).length ∨ ((st : Int) < most ∧ staleR sp now t = false)
   ·rw [rtrimG_stay hget hc, if_pos (by
     rcases hc with h | ⟨h1, h2⟩
     ·exact .inl (hz.1 h)
     ·exact .inr ⟨by rw [← hst, h2]; rfl, h1⟩), ih (st + 1) g (by omega) (by omega)]
   ·have h1 : i + 1 ≠ (imgT T).length := fun e => hc (.inl e)
    have h2 : (st : Int) < most → staleR sp now t = true := fun e => by
     cases hx : staleR sp now t
     ·exact absurd (.inr ⟨e, hx⟩) hc
     ·rfl
    rw [rtrimG_goes hget h1 h2, if_neg (by
     rintro (h | ⟨h3, h4⟩)
     ·exact h1 (hz.2 h)
     ·rw [← hst, h2 h4] at h3; cases h3), ih st _ (by omega) ⟨fun e => by omega, fun e => absurd (hz.2 e) h1⟩]
    simp [hd]
 have h := key (imgT T).length 0 [] (Nat.le_refl _) ⟨fun _ => rfl, fun _ => rfl⟩
 rw [h, List.append_nil, gone_eq, show (imgT T).length = (sortZ (hts T)).length from imgL_len T _, List.take_length]
end Go.Proofs.YthgjdaomcpinaaaGreatDoor
namespace Go.Proofs.YthgjdaomcpinaaaGreatDoor
open Go.RowKit Go.WideMaps Go.Maps Go.Sort Go.Shelf Pl
theorem jbroken_any (p j : Nat) (b : Bool) (w : World) (hj : Blk w j #[.pointer (some ⟨p, 0, none⟩), .bool b]) :
  Calls Tryz.prog 90 #[.pointer (some ⟨j, 0, none⟩)] w fun e w' => e = .returned (.bool b) ∧ Below w.heap.size w w' := by
 obtain ⟨b1, b2, b3⟩ := id hj
 have b11 := b1 1
 clear hj
 go_enter Tryz.func90, Tryz.ntmps90
 go_wp2_with fail
 go_ret
 exact ⟨rfl, Below.refl _ _⟩
theorem tbroken_any (p j q : Nat) (m : Value) (span : Int) (b : Bool) (w : World) (B : Blk w q #[m, .int .i64 span, .pointer (some ⟨j, 0, none⟩)]) (hj : Blk w j #[.pointer (some ⟨p, 0, none⟩), .bool b]) :
  Calls Tryz.prog 44 #[.pointer (some ⟨q, 0, none⟩)] w fun e w' => e = .returned (.bool b) ∧ Below w.heap.size w w' := by
 have q1 := jbroken_any p j b w hj
 obtain ⟨b1, b2, b3⟩ := id B
 have b12 := b1 2
 clear B hj
 go_enter Tryz.func44, Tryz.ntmps44
 go_wp2_with fail
 refine q1.mono ?_
 rintro e w1 ⟨rfl, h1⟩
 go_wp2_with fail
 go_ret
 exact ⟨rfl, h1⟩
theorem jwriteB_any (p j : Nat) (va : Option Addr) (n c : Nat) (w : World) (hj : Blk w j #[.pointer (some ⟨p, 0, none⟩), .bool true]) :
  Calls Tryz.prog 128 #[.pointer (some ⟨j, 0, none⟩), .slice va n c] w fun e w' => e = .returned (.int .i64 320) ∧ Below w.heap.size w w' := by
 obtain ⟨b1, b2, b3⟩ := id hj
 have b11 := b1 1
 clear hj
 go_enter Tryz.func128, Tryz.ntmps128
 go_wp2_with fail
 go_ret
 exact ⟨rfl, Below.refl _ _⟩
theorem twriteB_any (p j q : Nat) (m : Value) (span : Int) (va : Option Addr) (n c : Nat) (hn : n ≠ 0) (w : World) (B : Blk w q #[m, .int .i64 span, .pointer (some ⟨j, 0, none⟩)]) (hj : Blk w j #[.pointer (some ⟨p, 0, none⟩), .bool true]) :
  Calls Tryz.prog 73 #[.pointer (some ⟨q, 0, none⟩), .slice va n c] w fun e w' => e = .returned (.int .i64 320) ∧ Below w.heap.size w w' := by
 have q1 := jwriteB_any p j va n c w hj
 have e0 : ((n : Int) == 0) = false := by rw [beq_eq_false_iff_ne]; omega
 obtain ⟨b1, b2, b3⟩ := id B
 clear B hj hn
 go_enter Tryz.func73, Tryz.ntmps73
 go_wp2_with fail
 refine q1.mono ?_
 rintro e w1 ⟨rfl, h1⟩
 go_wp2_with fail
 go_ret
 exact ⟨rfl, h1⟩
theorem tat_none (base q m : Nat) (span : Int) (jp : Value) (T : List (Int × Tr)) (k now : Int) (hk : -9223372036854775808 ≤ k ∧ k ≤ 9223372036854775807) (hin : k ∉ hts T) (w : World) (hM : TrM w base m T) (B : Blk w q #[.map (some m), .int .i64 span, jp]) :
  Calls Tryz.prog 32 #[.pointer (some ⟨q, 0, none⟩), .int .i64 k, .int .i64 now] w fun e w' => e = .returned (.tuple #[nilT, .int .i64 5]) ∧ Below w.heap.size w w' := by
 have hb0 : Below w.heap.size w (w.alloc (.cells ztr.toArray 27)) := Below.allocS (Below.refl _ _) _
 obtain ⟨v, hrun, _, hz⟩ := (hM.keep hb0).look k hk
 have hmem : decide (k ∈ hts T) = false := decide_eq_false hin
 rw [hmem] at hrun
 have hv : v = nilT := by first | exact hz hin | exact hz hmem
 subst hv
 obtain ⟨b1, b2, b3⟩ := id B
 clear hM B hmem hin hz
 go_enter Tryz.func32, Tryz.ntmps32
 go_wp2_with fail
 refine bodyPost_ret (res_tr2 rfl _ _ ztr rfl _ rfl ((Blk.new _ _ _).alloc _)) rfl ?_
 exact ⟨rfl, Below.allocS (Below.allocS (Below.refl _ _) _) _⟩
end Go.Proofs.YthgjdaomcpinaaaGreatDoor
