/- TSafeQ, TInvK, TBehind, TSafeR. -/
import Derived.Test.YthgjdaomcpinaaaGreatDoorMn25
import Derived.Test.YthgjdaomcpinaaaGreatDoorMn26
import Derived.Test.YthgjdaomcpinaaaGreatDoorMn27
set_option linter.unnecessarySimpa false

/- Plain: what a store has, as a whole; what comes and goes, of the law's headers. -/
set_option linter.unusedSimpArgs false
set_option linter.unusedVariables false
namespace Go.Proofs.YthgjdaomcpinaaaGreatDoor
open Go.RowKit Go.Maps Pl

theorem look_cons (e : Int × Tr) (T : List (Int × Tr)) (k : Int) : lookK (e :: T) k = if e.1 = k then some e.2 else lookK T k := by
  unfold lookK
  rw [List.find?_cons]
  by_cases h : e.1 = k
  · have h2 : (e.1 == k) = true := by simpa using h
    rw [if_pos h, h2]
    rfl
  · have h2 : (e.1 == k) = false := by simpa using h
    rw [if_neg h, h2]
theorem hts_cons {e : Int × Tr} {T : List (Int × Tr)} {k : Int} : k ∈ hts (e :: T) ↔ k = e.1 ∨ k ∈ hts T := by
  unfold hts
  rw [List.map_cons, List.mem_cons]
theorem look_app : ∀ (T S : List (Int × Tr)) (k : Int), lookK (T ++ S) k = if k ∈ hts T then lookK T k else lookK S k
  | [], S, k => by simp [hts]
  | e :: T, S, k => by
    rw [List.cons_append, look_cons, look_cons, look_app T S k]
    by_cases h : e.1 = k
    · rw [if_pos h, if_pos h, if_pos (hts_cons.2 (.inl h.symm))]
    · by_cases h2 : k ∈ hts T
      · rw [if_neg h, if_neg h, if_pos h2, if_pos (hts_cons.2 (.inr h2))]
      · rw [if_neg h, if_neg h, if_neg h2, if_neg (fun hc => (hts_cons.1 hc).elim (fun e => h e.symm) h2)]
theorem look_none : ∀ {T : List (Int × Tr)} {k : Int}, lookK T k = none ↔ k ∉ hts T
  | [], k => by simp [lookK, hts]
  | e :: T, k => by
    rw [look_cons, hts_cons]
    by_cases h : e.1 = k
    · rw [if_pos h]
      exact ⟨fun h2 => (by cases h2), fun h2 => absurd (Or.inl h.symm) h2⟩
    · rw [if_neg h, look_none]
      exact ⟨fun h2 hc => hc.elim (fun e => h e.symm) h2, fun h2 hc => h2 (.inr hc)⟩
theorem look_mem {T : List (Int × Tr)} {k : Int} {t : Tr} (h : lookK T k = some t) : (k, t) ∈ T := by
  unfold lookK at h
  obtain ⟨e, he, rfl⟩ := Option.map_eq_some_iff.1 h
  have h1 := List.mem_of_find?_eq_some he
  have h2 := List.find?_some he
  have h3 : e.1 = k := by simpa using h2
  rw [← h3]
  exact h1
theorem look_map (T : List (Int × Tr)) (k : Int) (t : Tr) (k' : Int) : lookK (T.map (fun e => if e.1 = k then (k, t) else e)) k' = if k' = k then (if k ∈ hts T then some t else none) else lookK T k' := by
  induction T with
  | nil => simp [lookK, hts]
  | cons e T ih =>
    rw [List.map_cons, look_cons, ih, look_cons]
    by_cases h : e.1 = k
    · rw [if_pos h]
      by_cases h2 : k' = k
      · subst h2
        rw [if_pos rfl, if_pos rfl, if_pos (hts_cons.2 (.inl h.symm))]
      · have h3 : ¬ k = k' := fun e => h2 e.symm
        rw [if_neg h3, if_neg h2, if_neg h2, if_neg (by rw [h]; exact h3)]
    · rw [if_neg h]
      by_cases h2 : k' = k
      · subst h2
        rw [if_neg h, if_pos rfl, if_pos rfl]
        by_cases h4 : k' ∈ hts T
        · rw [if_pos h4, if_pos (hts_cons.2 (.inr h4))]
        · rw [if_neg h4, if_neg (fun hc => (hts_cons.1 hc).elim (fun e => h e.symm) h4)]
      · rw [if_neg h2, if_neg h2]
theorem look_put (T : List (Int × Tr)) (k : Int) (t : Tr) (k' : Int) : lookK (putK T k t) k' = if k' = k then some t else lookK T k' := by
  by_cases h : k ∈ hts T
  · rw [putK_again h, look_map]
    simp [h]
  · rw [putK_new h, look_app, look_cons]
    by_cases h2 : k' = k
    · subst h2
      rw [if_neg h, if_pos rfl, if_pos rfl]
    · have h3 : ¬ k = k' := fun e => h2 e.symm
      rw [if_neg h3, if_neg h2]
      split
      · rfl
      · rename_i h4
        rw [look_none.2 h4]
        rfl
theorem look_del (T : List (Int × Tr)) (k k' : Int) : lookK (delK T k) k' = if k' = k then none else lookK T k' := by
  induction T with
  | nil => simp [delK, lookK]
  | cons e T ih =>
    unfold delK at ih ⊢
    by_cases h : e.1 = k
    · rw [List.filter_cons_of_neg (by simp [h]), ih, look_cons]
      by_cases h2 : k' = k
      · rw [if_pos h2, if_pos h2]
      · rw [if_neg h2, if_neg h2, if_neg (by rw [h]; exact fun e => h2 e.symm)]
    · rw [List.filter_cons_of_pos (by simp [h]), look_cons, look_cons, ih]
      by_cases h2 : k' = k
      · subst h2
        rw [if_neg h, if_pos rfl, if_pos rfl]
      · rw [if_neg h2, if_neg h2]
theorem put_nodup {T : List (Int × Tr)} (h : (hts T).Nodup) (k : Int) (t : Tr) : (hts (putK T k t)).Nodup := by
  by_cases hk : k ∈ hts T
  · rw [putK_again hk, hts_map]
    exact h
  · rw [putK_new hk]
    unfold hts at *
    rw [List.map_append, List.nodup_append]
    refine ⟨h, by simp, ?_⟩
    intro a ha b hb e
    simp at hb
    subst hb e
    exact hk ha
/-- The same, looked at by heights. -/
def Alk (T S : List (Int × Tr)) : Prop := ∀ k, lookK T k = lookK S k
theorem img_alk {T S : List (Int × Tr)} (h1 : (hts T).Nodup) (h2 : (hts S).Nodup) (h : Alk T S) : imgT T = imgT S := by
  have hk : ∀ k, k ∈ hts T ↔ k ∈ hts S := fun k => by
    have := h k
    constructor
    · intro hi
      apply Classical.byContradiction
      intro hn
      rw [look_none.2 hn] at this
      exact look_none.1 this hi
    · intro hi
      apply Classical.byContradiction
      intro hn
      rw [look_none.2 hn] at this
      exact look_none.1 this.symm hi
  have hs : sortZ (hts T) = sortZ (hts S) := sorted_uniq _ _ (strict_of (sortZ_sorted _) (sortZ_nodup h1)) (strict_of (sortZ_sorted _) (sortZ_nodup h2)) (fun x => by rw [sortZ_mem, sortZ_mem]; exact hk x)
  unfold imgT imgL
  rw [hs]
  apply List.map_congr_left
  intro k _
  rw [h k]
theorem img_mem {T : List (Int × Tr)} (hn : (hts T).Nodup) {t : Tr} : t ∈ imgT T ↔ ∃ k, lookK T k = some t := by
  unfold imgT imgL
  rw [List.mem_map]
  constructor
  · rintro ⟨k, hk, rfl⟩
    rw [sortZ_mem] at hk
    obtain ⟨t, ht⟩ := hts_mem hk
    exact ⟨k, by rw [lookK_in hn ht]; rfl⟩
  · rintro ⟨k, hk⟩
    refine ⟨k, sortZ_mem.2 (List.mem_map.2 ⟨_, look_mem hk, rfl⟩), by rw [hk]; rfl⟩
theorem adds_alk : ∀ (l : List Tr) (T S T' S' : List (Int × Tr)), Alk T S → addsT l T = some T' → addsT l S = some S' → Alk T' S'
  | [], T, S, T', S', h, h1, h2 => by
    injection h1 with h1
    injection h2 with h2
    subst h1 h2
    exact h
  | t :: r, T, S, T', S', h, h1, h2 => by
    unfold addsT at h1 h2
    split at h1
    · cases h1
    · split at h2
      · cases h2
      · exact adds_alk r _ _ T' S' (fun k => by rw [look_put, look_put, h k]) h1 h2
theorem drops_cons (k : Int) (r : List Int) (T : List (Int × Tr)) : dropsT (k :: r) T = if k ∈ hts T then dropsT r (delK T k) else none := rfl
theorem drops_alk : ∀ (l : List Int) (T S : List (Int × Tr)), Alk T S → (dropsT l T = none ∧ dropsT l S = none) ∨ ∃ T' S', dropsT l T = some T' ∧ dropsT l S = some S' ∧ Alk T' S'
  | [], T, S, h => .inr ⟨T, S, rfl, rfl, h⟩
  | k :: r, T, S, h => by
    rw [drops_cons, drops_cons]
    by_cases hk : k ∈ hts T
    · have hk2 : k ∈ hts S := Classical.byContradiction (fun hn => by have := h k; rw [look_none.2 hn] at this; exact look_none.1 this hk)
      rw [if_pos hk, if_pos hk2]
      exact drops_alk r _ _ (fun x => by rw [look_del, look_del, h x])
    · have hk2 : k ∉ hts S := fun hi => by have := h k; rw [look_none.2 hk] at this; exact look_none.1 this.symm hi
      rw [if_neg hk, if_neg hk2]
      exact .inl ⟨rfl, rfl⟩
theorem adds_look : ∀ (l : List Tr) (T T' : List (Int × Tr)) (k : Int) (X : Option Tr), addsT l T = some T' → (∀ t ∈ l, t.head.height = k → some t = X) → ((∃ t ∈ l, t.head.height = k) → lookK T' k = X) ∧ ((¬ ∃ t ∈ l, t.head.height = k) → lookK T' k = lookK T k)
  | [], T, T', k, X, h, _ => by
    injection h with h
    subst h
    exact ⟨fun ⟨t, ht, _⟩ => (by cases ht), fun _ => rfl⟩
  | t :: r, T, T', k, X, h, hX => by
    unfold addsT at h
    split at h
    · cases h
    · obtain ⟨i1, i2⟩ := adds_look r _ T' k X h (fun u hu => hX u (List.mem_cons_of_mem _ hu))
      rw [look_put] at i2
      constructor
      · rintro ⟨u, hu, hk⟩
        by_cases hr : ∃ u ∈ r, u.head.height = k
        · exact i1 hr
        · have hut : u = t := by
            rcases List.mem_cons.1 hu with e | e
            · exact e
            · exact absurd ⟨u, e, hk⟩ hr
          subst hut
          rw [i2 hr, if_pos hk.symm]
          exact hX u (List.mem_cons_self ..) hk
      · intro hno
        have hr : ¬ ∃ u ∈ r, u.head.height = k := fun ⟨u, hu, hk⟩ => hno ⟨u, List.mem_cons_of_mem _ hu, hk⟩
        rw [i2 hr, if_neg (fun e => hno ⟨t, List.mem_cons_self .., e.symm⟩)]

/-! ### the law's headers -/
def SInv (l : List Tr) : Prop := ∀ t ∈ l, ∃ h a : Int, 0 ≤ h ∧ h ≤ 8 ∧ 0 ≤ a ∧ a ≤ 999 ∧ t = someT h a
theorem SInv.made (l : List (Int × Int)) : SInv (madeT l) := by
  intro t ht
  unfold madeT at ht
  obtain ⟨x, _, rfl⟩ := List.mem_map.1 ht
  have h1 := modN_lt x.1 8 (by omega)
  have h2 := modN_lt x.2 1000 (by omega)
  exact ⟨_, _, by omega, by omega, by omega, by omega, rfl⟩
theorem SInv.img {T : List (Int × Tr)} (hT : TInv T) (hn : (hts T).Nodup) : SInv (imgT T) := by
  intro t ht
  obtain ⟨k, hk⟩ := (img_mem hn).1 ht
  obtain ⟨h, a, h0, h1, a0, a1, e⟩ := hT _ (look_mem hk)
  injection e with e1 e2
  exact ⟨h, a, h0, h1, a0, a1, e2⟩
theorem SInv.fine {l : List Tr} (h : SInv l) : l.all fineT = true := by
  rw [List.all_eq_true]
  intro t ht
  obtain ⟨h, a, h0, h1, a0, a1, rfl⟩ := h t ht
  exact some_fine h a h0 (by omega) a0 (by omega)
theorem SInv.may {l : List Tr} (h : SInv l) (hl : l.length ≤ 1000) : mayR (batchT l) = true := by
  refine may_small _ 431 (fun x hx => ?_) (by rw [batch_len]; exact hl) (by omega)
  unfold batchT at hx
  obtain ⟨t, ht, rfl⟩ := List.mem_map.1 hx
  obtain ⟨h, a, h0, h1, a0, a1, rfl⟩ := h t ht
  have := some_len h a
  simp only [List.length_cons]
  omega
theorem SInv.rec_le {l : List Tr} (h : SInv l) : (recP (batchT l)).length ≤ l.length * 440 + 22 := by
  have := rec_len (batchT l) 431 (fun x hx => by
    unfold batchT at hx
    obtain ⟨t, ht, rfl⟩ := List.mem_map.1 hx
    obtain ⟨h, a, h0, h1, a0, a1, rfl⟩ := h t ht
    have := some_len h a
    simp only [List.length_cons]
    omega)
  rw [batch_len] at this
  exact this
theorem SInv.sm {l : List Tr} (h : SInv l) : ∀ t ∈ l, t.head.skips.length ≤ 1000000 ∧ t.set.length ≤ 1000000 ∧ -9223372036854775808 ≤ t.head.height ∧ t.head.height ≤ 9223372036854775807 := by
  intro t ht
  obtain ⟨h, a, h0, h1, a0, a1, rfl⟩ := h t ht
  refine ⟨?_, ?_, ?_, ?_⟩
  · show ([] : List Bs).length ≤ _; simp
  · show oneA.length ≤ _; decide
  · show _ ≤ 2 * h + 1; omega
  · show 2 * h + 1 ≤ _; omega
theorem adds_ok : ∀ (l : List Tr) (T : List (Int × Tr)), SInv l → TInv T → ∃ T', addsT l T = some T' ∧ TInv T' ∧ T'.length ≤ T.length + l.length ∧ ((hts T).Nodup → (hts T').Nodup)
  | [], T, _, hT => ⟨T, rfl, hT, by simp, fun h => h⟩
  | t :: r, T, hl, hT => by
    obtain ⟨h, a, h0, h1, a0, a1, rfl⟩ := hl _ (List.mem_cons_self ..)
    obtain ⟨T', e, i1, i2, i3⟩ := adds_ok r (putK T (2 * h + 1) (someT h a)) (fun u hu => hl u (List.mem_cons_of_mem _ hu)) (hT.put h0 h1 a0 a1)
    refine ⟨T', by rw [addsT_step (hT.noclash h a)]; exact e, i1, ?_, fun hn => i3 (put_nodup hn _ _)⟩
    have := putK_len T (2 * h + 1) (someT h a)
    rw [List.length_cons]
    omega
theorem drops_inv : ∀ (l : List Int) (T T' : List (Int × Tr)), dropsT l T = some T' → TInv T → TInv T' ∧ T'.length ≤ T.length ∧ ((hts T).Nodup → (hts T').Nodup)
  | [], T, T', h, hT => by
    injection h with h
    subst h
    exact ⟨hT, Nat.le_refl _, fun h => h⟩
  | k :: r, T, T', h, hT => by
    unfold dropsT at h
    split at h
    · have hs : (delK T k).Sublist T := List.filter_sublist
      obtain ⟨i1, i2, i3⟩ := drops_inv r (delK T k) T' h (hT.sub hs)
      exact ⟨i1, Nat.le_trans i2 hs.length_le, fun hn => i3 (List.Nodup.sublist (List.Sublist.map _ hs) hn)⟩
    · cases h
/-- All that a store has, added to nothing, is the same. -/
theorem img_adds {T T0 : List (Int × Tr)} (hT : TInv T) (hn : (hts T).Nodup) (h : addsT (imgT T) [] = some T0) : Alk T0 T := by
  have hkey : ∀ {k t}, lookK T k = some t → t.head.height = k := fun {k t} hk => by
    obtain ⟨h, a, h0, h1, a0, a1, e⟩ := hT _ (look_mem hk)
    injection e with e1 e2
    subst e1 e2
    rfl
  intro k
  obtain ⟨i1, i2⟩ := adds_look (imgT T) [] T0 k (lookK T k) h (fun t ht hk => by
    obtain ⟨x, hx⟩ := (img_mem hn).1 ht
    have := hkey hx
    rw [hk] at this
    subst this
    exact hx.symm)
  by_cases hex : ∃ t ∈ imgT T, t.head.height = k
  · exact i1 hex
  · rw [i2 hex]
    cases hl : lookK T k with
    | none => rfl
    | some t => exact absurd ⟨t, (img_mem hn).2 ⟨k, hl⟩, hkey hl⟩ hex
theorem add_many {d : Dk} {n : Nat} {T T' : List (Int × Tr)} {l : List Tr} (hd : DkOk d n) (hn : n ≤ 100000) (hl : SInv l) (hll : l.length ≤ 200) (h : addsT l T = some T') :
    ∃ d', addD d T l = (d', T', 0, false) ∧ DkOk d' (n + 100000) := by
  by_cases he : l = []
  · subst he
    exact ⟨d, addD_none h, ⟨hd.down, hd.fuse, hd.room, by have := hd.len; omega⟩⟩
  · have hr := hl.rec_le
    have hlen := hd.len
    have hw := writeD_ok d (batchT l) hd.down (by rw [hd.fuse]; omega) (by rw [hd.room]; omega)
    refine ⟨(writeD d (batchT l)).1, ?_, ?_⟩
    · rw [addD_yes hl.fine h he (by rw [hw]), hw]
      rfl
    · rw [hw]
      exact ⟨rfl, hd.fuse, hd.room, by simp only [List.length_append]; omega⟩
theorem goes_rec (l : List Int) : (recP (goesT l)).length ≤ l.length * 39 + 22 := by
  have hrl := rec_len (goesT l) 30 (by
    intro x hx
    unfold goesT at hx
    obtain ⟨k, hk1, rfl⟩ := List.mem_map.1 hx
    have := num_len' k.toNat
    simp only [List.length_cons]
    omega)
  rw [goes_len] at hrl
  exact hrl
theorem goes_may (l : List Int) (hl : l.length ≤ 1000) : mayR (goesT l) = true := by
  refine may_small _ 30 (fun x hx => ?_) (by rw [goes_len]; exact hl) (by omega)
  unfold goesT at hx
  obtain ⟨k, hk1, rfl⟩ := List.mem_map.1 hx
  have := num_len' k.toNat
  simp only [List.length_cons]
  omega
/-- What is left behind what goes, if all of it is there. -/
def leftT (T : List (Int × Tr)) (l : List Int) : List (Int × Tr) := (dropsT l T).getD T
theorem drop_many {d : Dk} {n : Nat} {T : List (Int × Tr)} {l : List Int} (hd : DkOk d n) (hn : n ≤ 300000) (hll : l.length ≤ 100) :
    ∃ d' c, dropD d T l = (d', leftT T l, c, false) := by
  unfold leftT
  cases h : dropsT l T with
  | none => exact ⟨d, 5, dropD_there h⟩
  | some T' =>
    by_cases he : l = []
    · subst he
      exact ⟨d, 0, dropD_none h⟩
    · have hr := goes_rec l
      have hlen := hd.len
      have hw := writeD_ok d (goesT l) hd.down (by rw [hd.fuse]; omega) (by rw [hd.room]; omega)
      exact ⟨(writeD d (goesT l)).1, 0, by rw [dropD_yes h he (by rw [hw]), hw]; rfl⟩
end Go.Proofs.YthgjdaomcpinaaaGreatDoor

/- Plain: the heights of the law's headers. -/
set_option linter.unusedSimpArgs false
set_option linter.unusedVariables false
namespace Go.Proofs.YthgjdaomcpinaaaGreatDoor
open Go.RowKit Go.Maps Pl

theorem TInv.keyB {T : List (Int × Tr)} (hT : TInv T) : ∀ k ∈ hts T, 0 ≤ k ∧ k ≤ 17 := by
  intro k hk
  obtain ⟨t, ht⟩ := hts_mem hk
  obtain ⟨h, a, h0, h1, a0, a1, e⟩ := hT _ ht
  injection e with e1 e2
  omega
end Go.Proofs.YthgjdaomcpinaaaGreatDoor

/- A store of some, behind what comes and goes: the law's walk of behind. -/
set_option linter.unusedSimpArgs false
set_option linter.unusedVariables false
namespace Go.Proofs.YthgjdaomcpinaaaGreatDoor
open Go.RowKit Go.WideMaps Go.Maps Go.Sort Go.Shelf Pl

theorem TInv.zero {T : List (Int × Tr)} (hT : TInv T) : ∀ e ∈ T, 0 ≤ e.2.at_ := fun e he => (hT.at_ (k := e.1) (t := e.2) he).1
theorem TInv.left {T : List (Int × Tr)} (hT : TInv T) (g : List Int) : TInv (leftT T g) ∧ (leftT T g).length ≤ T.length ∧ ((hts T).Nodup → (hts (leftT T g)).Nodup) := by
  unfold leftT
  cases h : dropsT g T with
  | none => exact ⟨hT, Nat.le_refl _, fun h => h⟩
  | some T' => exact drops_inv g T T' h hT
set_option maxRecDepth 100000 in
set_option maxHeartbeats 8000000 in
theorem tbehind_any (vl vc vg : Value) (l c : List Tr) (g : List Int) (hl : SInv l) (hc : SInv c) (hll : l.length ≤ 200) (hcl : c.length ≤ 200) (hgl : g.length ≤ 100) (hgb : ∀ k ∈ g, -9223372036854775808 ≤ k ∧ k ≤ 9223372036854775807) (T0 T2 : List (Int × Tr)) (h0 : addsT l [] = some T0) (h2 : addsT c T0 = some T2) (w : World) (hk : KT w) (hvl : TL w vl l) (hvc : TL w vc c) (hvg : IS w vg g) :
    Calls Tryz.prog 22 #[vl, vc, vg] w fun e w' => ∃ v, e = .returned v ∧ TO w' w.heap.size v (imgT (leftT T2 g)) ∧ Below w.heap.size w w' := by
  obtain ⟨la, lc, rfl⟩ := hvl.form
  obtain ⟨ca, cc, rfl⟩ := hvc.form
  obtain ⟨ga, gc, rfl⟩ := hvg.form
  obtain ⟨X0, e0, i0, n0, d0⟩ := adds_ok l [] hl TInv.nil
  obtain rfl : X0 = T0 := by rw [h0] at e0; injection e0 with e0; exact e0.symm
  obtain ⟨X2, e2, i2, n2, d2⟩ := adds_ok c X0 hc i0
  obtain rfl : X2 = T2 := by rw [h2] at e2; injection e2 with e2; exact e2.symm
  obtain ⟨i3, n3, d3⟩ := i2.left g
  have hd0 : DkOk ⟨[], 0, 524288, -1, false⟩ 0 := ⟨rfl, rfl, rfl, by simp⟩
  obtain ⟨D1, a1, k1⟩ := add_many hd0 (by omega) hl hll h0
  obtain ⟨D2, a2, k2⟩ := add_many k1 (by omega) hc hcl h2
  obtain ⟨D3, cd, a3⟩ := drop_many (T := X2) k2 (by omega) hgl
  have HVL := Lib.hid hvl
  have HVC := Lib.hid hvc
  have HVG := Lib.hid hvg
  have HK := Lib.hid hk
  have HA1 := Lib.hid a1
  have HA2 := Lib.hid a2
  have HA3 := Lib.hid a3
  have HI0 := Lib.hid i0
  have HI2 := Lib.hid i2
  have HI3 := Lib.hid i3
  have HLS := Lib.hid hl.sm
  have HCS := Lib.hid hc.sm
  have HLM := Lib.hid (hl.may (by omega))
  have HCM := Lib.hid (hc.may (by omega))
  have HGM := Lib.hid (goes_may g (by omega))
  have HGB := Lib.hid hgb
  have HK1 := Lib.hid k1
  have HK2 := Lib.hid k2
  simp only [List.length_nil] at n0
  generalize leftT X2 g = X3 at *
  have q2 := dnew_any 524288 (by omega) (by omega) w
  clear hvl hvc hvg hk a1 a2 a3 i0 i2 i3 hl hc e0 e2 h0 h2 hgb hd0 k1 k2 d0 d2 d3
  go_enter Tryz.func22, Tryz.ntmps22
  go_wp2_with fail
  refine q2.mono ?_
  rintro e w3 ⟨rfl, hD, hb⟩
  have hb3 := hb
  have hpl : w.heap.size < w3.heap.size := by
    obtain ⟨_, _, h⟩ := hD.row
    exact h.lt
  clear q2 hb
  have q3 := topen_empty [w.heap.size] w.heap.size ⟨[], 0, 524288, -1, false⟩ 1048576 (by omega) (by omega) rfl (by simp) (by rfl) w3 hD
  rw [show (syncD ⟨[], 0, 524288, -1, false⟩).1 = ⟨[], 0, 524288, -1, false⟩ from by rfl] at q3
  clear hD
  go_wp2_with fail
  refine q3.mono ?_
  rintro e w4 ⟨j, m, q, rfl, hj, hjm, hmq, hJ, hD, ho, hQ, m4⟩
  have hb4 := Below.mod hb3 m4 hb3.size (by simp)
  have hql := hQ.lt
  have hM : TrM w4 w4.heap.size m [] := TrM.nil ho
  obtain ⟨p, hp⟩ : ∃ p, p = w.heap.size := ⟨_, rfl⟩
  rw [← hp] at hJ hD hpl ⊢
  have hpw : w.heap.size ≤ p := by omega
  obtain ⟨base, hbs⟩ : ∃ base, base = w4.heap.size := ⟨_, rfl⟩
  rw [← hbs] at hM
  have hpj : p < j := by omega
  have hbase : base ≤ w4.heap.size := by omega
  have hqb : q < base := by omega
  clear q3 ho m4 hb3 hp hpl hbs hql
  have q4 := tadd_any [q, m, j, p] base p j q m 1048576 _ [] _ l (by omega) (by simp) HLM.out (by decide) (by decide) (by simp) HLS.out w4 (HK.out.keep hb4) hD hJ (by omega) (by simp) (by simp) (by intro x hx; simp at hx; omega) (by omega) (by omega) hqb (by omega) (by omega) hbase hQ hM (HVL.out.keep hb4)
  rw [HA1.out] at q4
  simp only at q4
  clear hD hJ hQ hM
  go_wp2_with fail
  refine q4.mono ?_
  rintro e w5 ⟨m5, rfl, hQ5, hM5, hD5, hJ5, hm5⟩
  have hb5 := Below.mod hb4 hm5 hb4.size (by simp; omega)
  have hs5 := hm5.size
  have q5 := tadd_any [q, m, j, p] base p j q m5 1048576 D1 X0 _ c (by omega) (by omega) HCM.out ⟨by rw [HK1.out.fuse]; omega, by rw [HK1.out.fuse]; omega⟩ ⟨by rw [HK1.out.room]; omega, by rw [HK1.out.room]; omega⟩ (by have := HK1.out.len; omega) HCS.out w5 (HK.out.keep hb5) hD5 hJ5 (by omega) (by simp) (by simp) (by intro x hx; simp at hx; omega) (by omega) (by omega) hqb (by omega) (by omega) (by omega) hQ5 hM5 (HVC.out.keep hb5)
  rw [HA2.out] at q5
  simp only at q5
  clear q4 hD5 hJ5 hQ5 hM5 hm5
  go_wp2_with fail
  refine q5.mono ?_
  rintro e w6 ⟨m6, rfl, hQ6, hM6, hD6, hJ6, hm6⟩
  have hb6 := Below.mod hb5 hm6 hb5.size (by simp; omega)
  have hs6 := hm6.size
  have q6 := tdrop_any [q, m, j, p] base p j q m6 1048576 D2 X2 _ g (by omega) (by omega) HGM.out ⟨by rw [HK2.out.fuse]; omega, by rw [HK2.out.fuse]; omega⟩ ⟨by rw [HK2.out.room]; omega, by rw [HK2.out.room]; omega⟩ (by have := HK2.out.len; omega) (fun k hk => by have := HI2.out.keyB k hk; omega) HGB.out w6 (HK.out.keep hb6) hD6 hJ6 (by omega) (by simp) (by simp) (by intro x hx; simp at hx; omega) (by omega) (by omega) hqb (by omega) (by omega) (by omega) hQ6 hM6 (HVG.out.keep hb6)
  rw [HA3.out] at q6
  simp only at q6
  clear q5 hD6 hJ6 hQ6 hM6 hm6
  go_wp2_with fail
  refine q6.mono ?_
  rintro e w7 ⟨m7, rfl, hQ7, hM7, hD7, hJ7, hm7⟩
  have hb7 := Below.mod hb6 hm7 hb6.size (by simp; omega)
  have q7 := timage_any base q m7 1048576 (.pointer (some ⟨j, 0, none⟩)) X3 (by omega) HI3.out.sm HI3.out.zero (by omega) w7 hM7 hQ7
  clear q6 hD7 hJ7 hQ7 hM7 hm7
  go_wp2_with fail
  refine q7.mono ?_
  rintro e w8 ⟨v, rfl, hO, hb⟩
  have hb8 := hb7.trans (hb.mono hb7.size)
  have hO8 := hO.low hb7.size
  obtain ⟨va, vc, rfl⟩ := hO8.form
  clear q7 hO hb
  go_wp2_with fail
  go_ret
  exact ⟨_, rfl, hO8, hb8⟩
end Go.Proofs.YthgjdaomcpinaaaGreatDoor

/- Plain: what a journal says behind what comes, and behind what goes; fuses. -/
set_option linter.unusedSimpArgs false
set_option linter.unusedVariables false
namespace Go.Proofs.YthgjdaomcpinaaaGreatDoor
open Go.RowKit Go.Maps Pl

/-- A fuse of the law's. -/
def FzOk (d : Dk) : Prop := -1 ≤ d.fuse ∧ d.fuse ≤ 24
theorem burnt_fz {d : Dk} (h : FzOk d) : FzOk (burntD d).1 := by
  unfold FzOk burntD at *
  split
  · exact h
  · split
    · simp only; omega
    · exact h
theorem burnt_code (d : Dk) : (burntD d).2 = 0 ∨ (burntD d).2 = 311 := by
  unfold burntD
  split
  · exact .inr rfl
  · split <;> exact .inl rfl
theorem sync_fz {d : Dk} (h : FzOk d) : FzOk (syncD d).1 ∧ ((syncD d).2 = 0 ∨ (syncD d).2 = 311) := by
  have h1 := burnt_fz h
  have h2 := burnt_code d
  unfold syncD
  split
  · exact ⟨h, .inr rfl⟩
  · split
    · exact ⟨h1, .inl rfl⟩
    · exact ⟨h1, h2⟩
theorem app_fz {d : Dk} (h : FzOk d) (t : Bs) : FzOk (appD d t).1 ∧ ((appD d t).2 = 0 ∨ (appD d t).2 = 310 ∨ (appD d t).2 = 311) := by
  have h1 := burnt_fz h
  have h2 := burnt_code d
  unfold appD
  split
  · exact ⟨h, .inr (.inr rfl)⟩
  · split
    · exact ⟨h, .inr (.inl rfl)⟩
    · split
      · exact ⟨h1, .inl rfl⟩
      · exact ⟨h1, h2.imp id .inr⟩
theorem write_fz {d : Dk} (h : FzOk d) (b : List Bs) : FzOk (writeD d b).1 ∧ ((writeD d b).2 = 0 ∨ (writeD d b).2 = 310 ∨ (writeD d b).2 = 311) := by
  have h1 := app_fz h (recP b)
  unfold writeD
  split
  · have h2 := sync_fz h1.1
    exact ⟨h2.1, h2.2.imp id .inr⟩
  · exact h1
theorem cut_fz {d : Dk} (h : FzOk d) (n : Nat) : FzOk (cutD d n).1 := by
  have h1 := burnt_fz h
  unfold cutD
  split
  · exact h
  · split
    · exact h1
    · exact h1
theorem open_fz {d : Dk} (h : FzOk d) (n : Nat) : FzOk (openD d n).1 := by
  unfold openD
  split
  · split
    · exact (sync_fz (cut_fz h n)).1
    · exact cut_fz h n
  · exact (sync_fz h).1
theorem sync_up {d : Dk} (h : d.down = false) (h0 : (syncD d).2 = 0) : (syncD d).1.down = false := by
  unfold syncD at h0 ⊢
  rw [h] at h0 ⊢
  rw [if_neg (by decide)] at h0 ⊢
  split
  · rfl
  · rename_i hb
    rw [if_neg hb] at h0
    exact absurd h0 hb
theorem cut_up {d : Dk} {n : Nat} (h : d.down = false) (h0 : (cutD d n).2 = 0) : (cutD d n).1.down = false := by
  unfold cutD at h0 ⊢
  rw [h] at h0 ⊢
  rw [if_neg (by decide)] at h0 ⊢
  split
  · rfl
  · rename_i hb
    rw [if_neg hb] at h0
    exact absurd h0 hb
theorem open_up {d : Dk} {n : Nat} (h : d.down = false) (h0 : (openD d n).2 = 0) : (openD d n).1.down = false := by
  unfold openD at h0 ⊢
  split
  · rename_i hn
    rw [if_pos hn] at h0
    split
    · rename_i hc
      rw [if_pos hc] at h0
      exact sync_up (cut_up h hc) h0
    · rename_i hc
      rw [if_neg hc] at h0
      exact absurd h0 hc
  · rename_i hn
    rw [if_neg hn] at h0
    exact sync_up h h0
theorem mayR_nil : mayR [] = true := by decide
/-- What comes of what comes. -/
theorem add_law {d : Dk} {B : List (List Bs)} {T T1 : List (Int × Tr)} {l : List Tr} (hJ : Jn d B) (hF : FzOk d) (hC : Chgs [] B.flatten T) (hl : SInv l) (hll : l.length ≤ 200) (h : addsT l T = some T1) :
    (∃ d' B', addD d T l = (d', T1, 0, false) ∧ Jn d' B' ∧ FzOk d' ∧ Chgs [] B'.flatten T1 ∧ B'.flatten.length ≤ B.flatten.length + l.length ∧ B'.length ≤ B.length + 1) ∨
      (∃ d' c f, addD d T l = (d', T, c, f) ∧ c ≠ 0 ∧ Torn d' B (batchT l) ∧ FzOk d' ∧ Chgs T (batchT l) T1) := by
  have hch := chgs_adds l T T1 hl.fine h
  by_cases he : l = []
  · subst he
    injection h with h
    subst h
    exact .inl ⟨d, B, addD_none rfl, hJ, hF, hC, by simp, by omega⟩
  · have hw := write_two hJ (hl.may (by omega))
    have hz := (write_fz hF (batchT l)).1
    rcases hw with ⟨h0, hJ'⟩ | ⟨h0, hT⟩
    · left
      refine ⟨_, _, by rw [addD_yes hl.fine h he h0, h0]; rfl, hJ', hz, ?_, ?_, by simp⟩
      · rw [List.flatten_append]
        simpa using hC.app hch
      · rw [List.flatten_append]
        simp [batch_len]
    · right
      exact ⟨_, _, _, addD_no hl.fine h he h0, h0, hT, hz, hch⟩
/-- What comes of what goes. -/
theorem drop_law {d : Dk} {B : List (List Bs)} {T : List (Int × Tr)} {g : List Int} (hJ : Jn d B) (hF : FzOk d) (hC : Chgs [] B.flatten T) (hT : TInv T) (hgl : g.length ≤ 100) :
    (∃ d' B' c, dropD d T g = (d', leftT T g, c, false) ∧ (c = 0 ∨ c = 5) ∧ Jn d' B' ∧ FzOk d' ∧ Chgs [] B'.flatten (leftT T g) ∧ B'.flatten.length ≤ B.flatten.length + g.length ∧ B'.length ≤ B.length + 1) ∨
      (∃ d' c f, dropD d T g = (d', T, c, f) ∧ c ≠ 0 ∧ c ≠ 5 ∧ Torn d' B (goesT g) ∧ FzOk d' ∧ Chgs T (goesT g) (leftT T g)) := by
  unfold leftT
  cases h : dropsT g T with
  | none => exact .inl ⟨d, B, 5, dropD_there h, .inr rfl, hJ, hF, hC, by omega, by omega⟩
  | some T' =>
    by_cases he : g = []
    · subst he
      injection h with h'
      subst h'
      exact .inl ⟨d, B, 0, dropD_none rfl, .inl rfl, hJ, hF, hC, by simp, by omega⟩
    · have hch := chgs_drops g T T' (fun k hk => by have := hT.keyB k hk; omega) h
      have hw := write_two hJ (goes_may g (by omega))
      have hz := write_fz hF (goesT g)
      rcases hw with ⟨h0, hJ'⟩ | ⟨h0, hTo⟩
      · left
        refine ⟨_, _, 0, by rw [dropD_yes h he h0, h0]; rfl, .inl rfl, hJ', hz.1, ?_, ?_, by simp⟩
        · rw [List.flatten_append]
          simpa using hC.app hch
        · rw [List.flatten_append]
          simp [goes_len]
      · right
        refine ⟨_, _, _, dropD_no h he h0, h0, ?_, hTo, hz.1, hch⟩
        rcases hz.2 with e | e | e <;> omega
/-- What is told of a store behind what comes is what it has then. -/
theorem behind_adds {T T1 T0 T2 : List (Int × Tr)} {l : List Tr} (hT : TInv T) (hn : (hts T).Nodup) (hl : SInv l) (h1 : addsT l T = some T1) (h0 : addsT (imgT T) [] = some T0) (h2 : addsT l T0 = some T2) : imgT (leftT T2 []) = imgT T1 := by
  obtain ⟨X1, e1, i1, _, n1⟩ := adds_ok l T hl hT
  obtain rfl : X1 = T1 := by rw [h1] at e1; injection e1 with e1; exact e1.symm
  obtain ⟨X0, e0, i0, _, n0⟩ := adds_ok (imgT T) [] (SInv.img hT hn) TInv.nil
  obtain rfl : X0 = T0 := by rw [h0] at e0; injection e0 with e0; exact e0.symm
  obtain ⟨X2, e2, i2, _, n2⟩ := adds_ok l X0 hl i0
  obtain rfl : X2 = T2 := by rw [h2] at e2; injection e2 with e2; exact e2.symm
  exact img_alk (n2 (n0 (by simp [hts]))) (n1 hn) (adds_alk l _ _ _ _ (img_adds hT hn h0) h2 h1)
/-- The same, of what goes. -/
theorem behind_drops {T T0 T2 : List (Int × Tr)} {g : List Int} (hT : TInv T) (hn : (hts T).Nodup) (h0 : addsT (imgT T) [] = some T0) (h2 : addsT [] T0 = some T2) : imgT (leftT T2 g) = imgT (leftT T g) := by
  injection h2 with h2
  subst h2
  obtain ⟨X0, e0, i0, _, n0⟩ := adds_ok (imgT T) [] (SInv.img hT hn) TInv.nil
  obtain rfl : X0 = T0 := by rw [h0] at e0; injection e0 with e0; exact e0.symm
  have hn0 : (hts X0).Nodup := n0 (by simp [hts])
  have ha := img_adds hT hn h0
  have hl1 : (hts (leftT X0 g)).Nodup ∧ (hts (leftT T g)).Nodup := by
    unfold leftT
    constructor
    · cases h : dropsT g X0 with
      | none => exact hn0
      | some T' => exact (drops_inv g X0 T' h i0).2.2 hn0
    · cases h : dropsT g T with
      | none => exact hn
      | some T' => exact (drops_inv g T T' h hT).2.2 hn
  refine img_alk hl1.1 hl1.2 ?_
  unfold leftT
  rcases drops_alk g X0 T ha with ⟨e1, e2⟩ | ⟨S, S', e1, e2, h⟩
  · rw [e1, e2]; exact ha
  · rw [e1, e2]; exact h
end Go.Proofs.YthgjdaomcpinaaaGreatDoor
