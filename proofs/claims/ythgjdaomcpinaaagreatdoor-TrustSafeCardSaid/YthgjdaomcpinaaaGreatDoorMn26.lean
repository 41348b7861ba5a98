/- TTrimP, TSafeP, OwnG. -/
import Derived.Lib.OwnKind
import Derived.Maps.AppendAt
import Derived.Lib.OwnBridge
import Derived.Test.YthgjdaomcpinaaaGreatDoorMn3
import Derived.Test.YthgjdaomcpinaaaGreatDoorMn11
import Derived.Test.YthgjdaomcpinaaaGreatDoorMn24
import Derived.Test.YthgjdaomcpinaaaGreatDoorMn25
set_option linter.unnecessarySimpa false

/- Plain: what Trim leaves. -/
set_option linter.unusedSimpArgs false
set_option linter.unusedVariables false
namespace Go.Proofs.YthgjdaomcpinaaaGreatDoor
open Go.RowKit Go.Maps Pl

/-- What stays, of heights from the highest on; n stay already. -/
def stayL (F : Int → Bool) (most : Int) : Nat → List Int → List Int
  | _, [] => []
  | n, k :: r => if n = 0 ∨ (F k = true ∧ (n : Int) < most) then k :: stayL F most (n + 1) r else stayL F most n r
/-- What goes. -/
def goneL (F : Int → Bool) (most : Int) : Nat → List Int → List Int
  | _, [] => []
  | n, k :: r => if n = 0 ∨ (F k = true ∧ (n : Int) < most) then goneL F most (n + 1) r else k :: goneL F most n r
theorem trimG_gone {T : List (Int × Tr)} {span now most : Int} : ∀ (l g : List Int) (i n : Nat), i = n + g.length → (i = 0 ↔ n = 0) → trimG T span now most i g l = g ++ goneL (freshK T span now) most n l
  | [], g, i, n, _, _ => by show g = g ++ []; rw [List.append_nil]
  | k :: r, g, i, n, hi, hz => by
    rw [trimG_cons, goneL]
    by_cases h : n = 0 ∨ (freshK T span now k = true ∧ (n : Int) < most)
    · rw [if_pos h, if_neg (by rintro ⟨h1, h2⟩; exact h.elim (fun h => by omega) (fun h => h2 ⟨h.1, by omega⟩))]
      exact trimG_gone r g (i + 1) (n + 1) (by omega) (by omega)
    · have h1 : ¬ n = 0 := fun e => h (.inl e)
      rw [if_neg h, if_pos ⟨by omega, fun h2 => h (.inr ⟨h2.1, by omega⟩)⟩, trimG_gone r (g ++ [k]) (i + 1) n (by simp; omega) (by omega)]
      simp
theorem stayL_len {F : Int → Bool} {most : Int} : ∀ (l : List Int) (n : Nat), (stayL F most n l).length + (goneL F most n l).length = l.length
  | [], n => rfl
  | k :: r, n => by
    rw [stayL, goneL]
    by_cases h : n = 0 ∨ (F k = true ∧ (n : Int) < most)
    · rw [if_pos h, if_pos h, List.length_cons, List.length_cons]
      have := stayL_len (F := F) (most := most) r (n + 1)
      omega
    · rw [if_neg h, if_neg h, List.length_cons, List.length_cons]
      have := stayL_len (F := F) (most := most) r n
      omega
theorem stayL_most {F : Int → Bool} {most : Int} (hm : 1 ≤ most) : ∀ (l : List Int) (n : Nat), (n : Int) ≤ most → (n : Int) + (stayL F most n l).length ≤ most
  | [], n, h => by show (n : Int) + ((0 : Nat) : Int) ≤ most; omega
  | k :: r, n, hn => by
    rw [stayL]
    by_cases h : n = 0 ∨ (F k = true ∧ (n : Int) < most)
    · rw [if_pos h, List.length_cons]
      have := stayL_most (F := F) hm r (n + 1) (by rcases h with h | h <;> omega)
      omega
    · rw [if_neg h]
      exact stayL_most hm r n hn
theorem stayL_sub {F : Int → Bool} {most : Int} : ∀ (l : List Int) (n : Nat), (stayL F most n l).Sublist l
  | [], n => List.Sublist.refl _
  | k :: r, n => by
    rw [stayL]
    by_cases h : n = 0 ∨ (F k = true ∧ (n : Int) < most)
    · rw [if_pos h]; exact (stayL_sub r (n + 1)).cons_cons k
    · rw [if_neg h]; exact (stayL_sub r n).cons k
theorem goneL_sub {F : Int → Bool} {most : Int} : ∀ (l : List Int) (n : Nat), (goneL F most n l).Sublist l
  | [], n => List.Sublist.refl _
  | k :: r, n => by
    rw [goneL]
    by_cases h : n = 0 ∨ (F k = true ∧ (n : Int) < most)
    · rw [if_pos h]; exact (goneL_sub r (n + 1)).cons k
    · rw [if_neg h]; exact (goneL_sub r n).cons_cons k
theorem stayL_mem {F : Int → Bool} {most : Int} {x : Int} : ∀ (l : List Int) (n : Nat), l.Nodup → (x ∈ stayL F most n l ↔ x ∈ l ∧ x ∉ goneL F most n l)
  | [], n, _ => by show x ∈ [] ↔ _; simp
  | k :: r, n, hn => by
    rw [List.nodup_cons] at hn
    rw [stayL, goneL]
    by_cases h : n = 0 ∨ (F k = true ∧ (n : Int) < most)
    · rw [if_pos h, if_pos h, List.mem_cons, List.mem_cons, stayL_mem r (n + 1) hn.2]
      constructor
      · rintro (rfl | ⟨h1, h2⟩)
        · exact ⟨.inl rfl, fun h3 => hn.1 ((goneL_sub r (n + 1)).subset h3)⟩
        · exact ⟨.inr h1, h2⟩
      · rintro ⟨rfl | h1, h2⟩
        · exact .inl rfl
        · exact .inr ⟨h1, h2⟩
    · rw [if_neg h, if_neg h, List.mem_cons, List.mem_cons, stayL_mem r n hn.2]
      constructor
      · rintro ⟨h1, h2⟩
        refine ⟨.inr h1, ?_⟩
        rintro (rfl | h3)
        · exact hn.1 h1
        · exact h2 h3
      · rintro ⟨h1, h2⟩
        rcases h1 with rfl | h1
        · exact absurd (.inl rfl) h2
        · exact ⟨h1, fun h3 => h2 (.inr h3)⟩
theorem goneL_keep {F G : Int → Bool} {most : Int} : ∀ (l : List Int) (n : Nat), (∀ k ∈ stayL F most n l, G k = F k) → goneL G most n (stayL F most n l) = []
  | [], n, _ => rfl
  | k :: r, n, h => by
    rw [stayL] at h ⊢
    by_cases hc : n = 0 ∨ (F k = true ∧ (n : Int) < most)
    · rw [if_pos hc] at h ⊢
      have hk := h k (List.mem_cons_self ..)
      rw [goneL, if_pos (by rw [hk]; exact hc)]
      exact goneL_keep r (n + 1) (fun x hx => h x (List.mem_cons_of_mem _ hx))
    · rw [if_neg hc] at h ⊢
      exact goneL_keep r n h
theorem stayL_fresh {F : Int → Bool} {most : Int} {x : Int} : ∀ (l : List Int) (n : Nat), n ≠ 0 → x ∈ stayL F most n l → F x = true
  | [], n, _, h => by cases h
  | k :: r, n, hn, h => by
    rw [stayL] at h
    by_cases hc : n = 0 ∨ (F k = true ∧ (n : Int) < most)
    · rw [if_pos hc] at h
      rcases List.mem_cons.1 h with rfl | h
      · exact (hc.resolve_left hn).1
      · exact stayL_fresh r (n + 1) (by omega) h
    · rw [if_neg hc] at h
      exact stayL_fresh r n hn h
/-! ### the map behind it -/
def delL (T : List (Int × Tr)) (l : List Int) : List (Int × Tr) := l.foldl delK T
theorem delL_mem {e : Int × Tr} : ∀ (l : List Int) (T : List (Int × Tr)), e ∈ delL T l ↔ e ∈ T ∧ e.1 ∉ l
  | [], T => by show e ∈ T ↔ _; simp
  | k :: r, T => by
    show e ∈ delL (delK T k) r ↔ _
    rw [delL_mem r (delK T k)]
    unfold delK
    rw [List.mem_filter, List.mem_cons]
    simp only [decide_eq_true_eq]
    constructor
    · rintro ⟨⟨h1, h2⟩, h3⟩
      exact ⟨h1, fun h => h.elim h2 h3⟩
    · rintro ⟨h1, h2⟩
      exact ⟨⟨h1, fun h => h2 (.inl h)⟩, fun h => h2 (.inr h)⟩
theorem delL_sub : ∀ (l : List Int) (T : List (Int × Tr)), (delL T l).Sublist T
  | [], T => List.Sublist.refl _
  | k :: r, T => (delL_sub r (delK T k)).trans List.filter_sublist
theorem delL_nodup {l : List Int} {T : List (Int × Tr)} (h : (hts T).Nodup) : (hts (delL T l)).Nodup := List.Nodup.sublist (List.Sublist.map _ (delL_sub l T)) h
theorem delL_keys {l : List Int} {T : List (Int × Tr)} {k : Int} : k ∈ hts (delL T l) ↔ k ∈ hts T ∧ k ∉ l := by
  unfold hts
  rw [List.mem_map, List.mem_map]
  constructor
  · rintro ⟨e, he, rfl⟩
    rw [delL_mem] at he
    exact ⟨⟨e, he.1, rfl⟩, he.2⟩
  · rintro ⟨⟨e, he, rfl⟩, h2⟩
    exact ⟨e, (delL_mem l T).2 ⟨he, h2⟩, rfl⟩
theorem drops_ok : ∀ (l : List Int) (T : List (Int × Tr)), l.Nodup → (∀ k ∈ l, k ∈ hts T) → dropsT l T = some (delL T l)
  | [], T, _, _ => rfl
  | k :: r, T, hn, h => by
    rw [List.nodup_cons] at hn
    rw [dropsT, if_pos (show k ∈ List.map (fun x => x.fst) T from h k (List.mem_cons_self ..))]
    exact drops_ok r (delK T k) hn.2 (fun x hx => delK_keys.2 ⟨h x (List.mem_cons_of_mem _ hx), fun e => hn.1 (e ▸ hx)⟩)
theorem TInv.sub {T T' : List (Int × Tr)} (h : TInv T) (hs : T'.Sublist T) : TInv T' := fun e he => h e (hs.subset he)
theorem fresh_del {T : List (Int × Tr)} (hn : (hts T).Nodup) {l : List Int} {span now k : Int} (h : k ∈ hts (delL T l)) : freshK (delL T l) span now k = freshK T span now k := by
  obtain ⟨t, ht⟩ := hts_mem h
  rw [fresh_some (lookK_in (delL_nodup hn) ht), fresh_some (lookK_in hn ((delL_mem l T).1 ht).1)]
theorem sorted_uniq : ∀ (a b : List Int), a.Pairwise (· < ·) → b.Pairwise (· < ·) → (∀ x, x ∈ a ↔ x ∈ b) → a = b
  | [], [], _, _, _ => rfl
  | [], y :: r, _, _, h => by have := (h y).2 (List.mem_cons_self ..); cases this
  | x :: r, [], _, _, h => by have := (h x).1 (List.mem_cons_self ..); cases this
  | x :: r, y :: s, ha, hb, h => by
    rw [List.pairwise_cons] at ha hb
    have hxy : x = y := by
      rcases List.mem_cons.1 ((h x).1 (List.mem_cons_self ..)) with e | e
      · exact e
      · rcases List.mem_cons.1 ((h y).2 (List.mem_cons_self ..)) with e2 | e2
        · exact e2.symm
        · have h1 := hb.1 x e; have h2 := ha.1 y e2; omega
    subst hxy
    rw [sorted_uniq r s ha.2 hb.2 (fun z => ?_)]
    constructor
    · intro hz
      rcases List.mem_cons.1 ((h z).1 (List.mem_cons_of_mem _ hz)) with e | e
      · have := ha.1 z hz; omega
      · exact e
    · intro hz
      rcases List.mem_cons.1 ((h z).2 (List.mem_cons_of_mem _ hz)) with e | e
      · have := hb.1 z hz; omega
      · exact e
theorem strict_of {l : List Int} (h1 : l.Pairwise (· ≤ ·)) (h2 : l.Nodup) : l.Pairwise (· < ·) := by
  have := h1.and h2
  exact this.imp (fun h => by have := h.1; have := h.2; omega)
/-- What Trim leaves. -/
def keptH (T : List (Int × Tr)) (span now most : Int) : List Int := (stayL (freshK T span now) most 0 (sortZ (hts T)).reverse).reverse
theorem gone_eq (T : List (Int × Tr)) (span now most : Int) : goneG T span now most = (goneL (freshK T span now) most 0 (sortZ (hts T)).reverse).reverse := by
  unfold goneG
  rw [trimG_gone (sortZ (hts T)).reverse [] 0 0 rfl Iff.rfl, List.nil_append]
theorem rs_nodup {T : List (Int × Tr)} (hn : (hts T).Nodup) : (sortZ (hts T)).reverse.Nodup := by
  exact (List.reverse_perm _).nodup_iff.2 (sortZ_nodup hn)
theorem gone_nodup {T : List (Int × Tr)} (hn : (hts T).Nodup) (span now most : Int) : (goneG T span now most).Nodup := by
  rw [gone_eq]
  exact (List.reverse_perm _).nodup_iff.2 (List.Nodup.sublist (goneL_sub _ _) (rs_nodup hn))
theorem gone_in {T : List (Int × Tr)} {span now most k : Int} (h : k ∈ goneG T span now most) : k ∈ hts T := by
  rw [gone_eq, List.mem_reverse] at h
  exact sortZ_mem.1 (List.mem_reverse.1 ((goneL_sub _ _).subset h))
theorem left_heights {T : List (Int × Tr)} (hn : (hts T).Nodup) (span now most : Int) : sortZ (hts (delL T (goneG T span now most))) = keptH T span now most := by
  apply sorted_uniq
  · exact strict_of (sortZ_sorted _) (sortZ_nodup (delL_nodup hn))
  · unfold keptH
    rw [List.pairwise_reverse]
    have h1 : (sortZ (hts T)).reverse.Pairwise (fun a b => b < a) := by
      rw [List.pairwise_reverse]
      exact strict_of (sortZ_sorted _) (sortZ_nodup hn)
    exact List.Pairwise.sublist (stayL_sub _ _) h1
  · intro x
    rw [sortZ_mem, delL_keys]
    unfold keptH
    rw [List.mem_reverse, stayL_mem _ _ (rs_nodup hn), List.mem_reverse, sortZ_mem, gone_eq, List.mem_reverse]
theorem gone_again {T : List (Int × Tr)} (hn : (hts T).Nodup) (span now most : Int) : goneG (delL T (goneG T span now most)) span now most = [] := by
  have h := left_heights hn span now most
  rw [gone_eq (delL T _), h]
  unfold keptH
  rw [List.reverse_reverse, goneL_keep]
  · rfl
  · intro k hk
    apply fresh_del hn
    rw [← sortZ_mem, h]
    unfold keptH
    exact List.mem_reverse.2 hk
theorem kept_len (T : List (Int × Tr)) (span now most : Int) : (keptH T span now most).length + (goneG T span now most).length = (sortZ (hts T)).length := by
  rw [gone_eq]
  unfold keptH
  rw [List.length_reverse, List.length_reverse, stayL_len, List.length_reverse]
theorem kept_most {most : Int} (hm : 1 ≤ most) (T : List (Int × Tr)) (span now : Int) : ((keptH T span now most).length : Int) ≤ most := by
  unfold keptH
  rw [List.length_reverse]
  have := stayL_most (F := freshK T span now) hm (sortZ (hts T)).reverse 0 (by omega)
  omega
theorem kept_sub (T : List (Int × Tr)) (span now most : Int) : (keptH T span now most).Sublist (sortZ (hts T)) := by
  have h := (stayL_sub (F := freshK T span now) (most := most) (sortZ (hts T)).reverse 0).reverse
  rw [List.reverse_reverse] at h
  exact h
/-- The highest stays; the others of them are not stale. -/
theorem kept_last {T : List (Int × Tr)} {span now most : Int} (h : sortZ (hts T) ≠ []) : ∃ (a b : List Int) (x : Int), sortZ (hts T) = a ++ [x] ∧ keptH T span now most = b ++ [x] ∧ ∀ k ∈ b, freshK T span now k = true := by
  unfold keptH
  generalize sortZ (hts T) = Hs at *
  rcases List.eq_nil_or_concat Hs with e | ⟨a, x, e⟩
  · exact absurd e h
  · rw [List.concat_eq_append] at e
    subst e
    refine ⟨a, (stayL (freshK T span now) most 1 a.reverse).reverse, x, rfl, ?_, ?_⟩
    · rw [List.reverse_append, List.reverse_singleton, List.singleton_append, stayL, if_pos (.inl rfl), List.reverse_cons]
    · intro k hk
      exact stayL_fresh _ 1 (by omega) (List.mem_reverse.1 hk)
/-! ### how many of them are met -/
def metN (N : List Int) (k : Nat) (h : Int) : Nat := if k < N.length ∧ N[k]? = some h then k + 1 else k
theorem met_all {N : List Int} : ∀ (H : List Int) (k : Nat), (N.drop k).Sublist H → k ≤ N.length → H.foldl (metN N) k = N.length
  | [], k, h, hk => by
    have h0 := List.eq_nil_of_sublist_nil h
    have := congrArg List.length h0
    rw [List.length_drop, List.length_nil] at this
    show k = _
    omega
  | x :: r, k, h, hk => by
    rw [List.foldl_cons]
    by_cases hlt : k < N.length
    · have hd : N.drop k = N[k] :: N.drop (k + 1) := List.drop_eq_getElem_cons hlt
      rw [hd] at h
      by_cases he : N[k] = x
      · have h2 : metN N k x = k + 1 := if_pos ⟨hlt, by rw [List.getElem?_eq_getElem hlt, he]⟩
        rw [h2]
        rw [he] at h
        exact met_all r (k + 1) (List.cons_sublist_cons.1 h) (by omega)
      · have h2 : metN N k x = k := if_neg (by rintro ⟨_, h3⟩; rw [List.getElem?_eq_getElem hlt] at h3; exact he (Option.some.inj h3))
        rw [h2]
        refine met_all r k ?_ hk
        rw [hd]
        cases h with
        | cons _ h => exact h
        | cons_cons _ h => exact absurd rfl he
    · have h2 : metN N k x = k := if_neg (by rintro ⟨h3, _⟩; exact hlt h3)
      rw [h2]
      refine met_all r k ?_ hk
      rw [List.drop_eq_nil_of_le (by omega)]
      exact List.nil_sublist _
/-! ### the disk behind it -/
theorem gone_may {l : List Int} (hl : l.length ≤ 1000) (hk : ∀ k ∈ l, 0 ≤ k ∧ k ≤ 17) : mayR (goesT l) = true := by
  apply may_small _ 500 _ (by rw [goes_len]; exact hl) (by omega)
  intro x hx
  unfold goesT at hx
  obtain ⟨k, hk1, rfl⟩ := List.mem_map.1 hx
  have := num_len' k.toNat
  simp only [List.length_cons]
  omega
theorem drop_one {d : Dk} {n : Nat} {T : List (Int × Tr)} (hd : DkOk d n) (hn : n ≤ 100000) {l : List Int} (hl : l.length ≤ 20) (hnd : l.Nodup) (hin : ∀ k ∈ l, k ∈ hts T) :
    ∃ d', dropD d T l = (d', delL T l, 0, false) ∧ DkOk d' (n + 1000) := by
  have h2 := drops_ok l T hnd hin
  by_cases he : l = []
  · subst he
    exact ⟨d, dropD_none h2, ⟨hd.down, hd.fuse, hd.room, by have := hd.len; omega⟩⟩
  · have hrl := rec_len (goesT l) 30 (by
      intro x hx
      unfold goesT at hx
      obtain ⟨k, hk1, rfl⟩ := List.mem_map.1 hx
      have := num_len' k.toNat
      simp only [List.length_cons]
      omega)
    rw [goes_len] at hrl
    have h39 : l.length * (30 + 9) ≤ 20 * 39 := Nat.mul_le_mul_right _ hl
    have hlen := hd.len
    have hw := writeD_ok d (goesT l) hd.down (by rw [hd.fuse]; omega) (by rw [hd.room]; omega)
    refine ⟨(writeD d (goesT l)).1, ?_, ?_⟩
    · rw [dropD_yes h2 he (by rw [hw]), hw]
      rfl
    · rw [hw]
      exact ⟨rfl, hd.fuse, hd.room, by simp only [List.length_append]; omega⟩
end Go.Proofs.YthgjdaomcpinaaaGreatDoor

/- Layers 31 to 33, plain: what a journal says; what a write, a crash and an opening leave of it. -/
set_option linter.unusedSimpArgs false
set_option linter.unusedVariables false
namespace Go.Proofs.YthgjdaomcpinaaaGreatDoor
open Go.RowKit Go.Maps Pl

/-- What a text changes. -/
inductive Chg : List (Int × Tr) → Bs → List (Int × Tr) → Prop
  | come (T : List (Int × Tr)) (t : Tr) (h : fineT t = true) (hh : 0 ≤ t.head.height ∧ t.head.height ≤ 9223372036854775807) : Chg T (1 :: writT t) (putK T t.head.height t)
  | goes (T : List (Int × Tr)) (k : Nat) (hk : k < 9223372036854775808) (h : (k : Int) ∈ hts T) : Chg T (2 :: num k) (delK T k)
/-- What texts change. -/
inductive Chgs : List (Int × Tr) → List Bs → List (Int × Tr) → Prop
  | nil (T : List (Int × Tr)) : Chgs T [] T
  | cons {T T1 T2 : List (Int × Tr)} {s : Bs} {r : List Bs} (h : Chg T s T1) (h2 : Chgs T1 r T2) : Chgs T (s :: r) T2
theorem Chgs.app {T T1 : List (Int × Tr)} {a : List Bs} (h : Chgs T a T1) : ∀ {b : List Bs} {T2 : List (Int × Tr)}, Chgs T1 b T2 → Chgs T (a ++ b) T2 := by
  induction h with
  | nil T => intro b T2 h2; exact h2
  | cons h _ ih => intro b T2 h2; exact .cons h (ih h2)
theorem Chgs.head {T T2 : List (Int × Tr)} {s : Bs} {r : List Bs} (h : Chgs T (s :: r) T2) : ∃ T1, Chg T s T1 ∧ Chgs T1 r T2 := by
  cases h with
  | cons h h2 => exact ⟨_, h, h2⟩
theorem Chgs.none {T T2 : List (Int × Tr)} (h : Chgs T [] T2) : T2 = T := by
  cases h
  rfl
theorem Chg.len {T T1 : List (Int × Tr)} {s : Bs} (h : Chg T s T1) : T1.length ≤ T.length + 1 := by
  cases h with
  | come t hf hh => exact putK_len _ _ _
  | goes k hk h =>
    have : (delK T k).length ≤ T.length := List.length_filter_le _ _
    omega
theorem fineH_height {h : Hd} (hf : fineH h = true) : 0 ≤ h.height ∧ h.height ≤ 1048576 := by
  unfold fineH numsH inH at hf
  simp only [Bool.and_eq_true, decide_eq_true_eq] at hf
  exact hf.1.1.1.1.1
theorem chgs_adds : ∀ (l : List Tr) (T T' : List (Int × Tr)), l.all fineT = true → addsT l T = some T' → Chgs T (batchT l) T'
  | [], T, T', _, h => by
    injection h with h
    subst h
    exact .nil T
  | t :: r, T, T', hf, h => by
    simp only [List.all_cons, Bool.and_eq_true] at hf
    unfold addsT at h
    split at h
    · cases h
    · have := fineH_height (fineT_parts hf.1).1
      exact .cons (.come T t hf.1 (by omega)) (chgs_adds r _ T' hf.2 h)
theorem chgs_drops : ∀ (l : List Int) (T T' : List (Int × Tr)), (∀ k ∈ hts T, 0 ≤ k ∧ k ≤ 9223372036854775807) → dropsT l T = some T' → Chgs T (goesT l) T'
  | [], T, T', _, h => by
    injection h with h
    subst h
    exact .nil T
  | k :: r, T, T', hk, h => by
    unfold dropsT at h
    split at h
    · rename_i hin
      have h0 := hk k hin
      obtain ⟨n, rfl⟩ : ∃ n : Nat, k = n := ⟨k.toNat, by omega⟩
      have := Chg.goes T n (by omega) hin
      exact .cons this (chgs_drops r _ T' (fun x hx => hk x (delK_keys.1 hx).1) h)
    · cases h

/-! ### disks -/
/-- All of it whole, and safe. -/
structure Jn (d : Dk) (B : List (List Bs)) : Prop where
  s : d.s = recsP B
  may : ∀ b ∈ B, mayR b = true
  safe : d.safe = (d.s.length : Int)
  room : d.room = 524288
  down : d.down = false
  len : d.s.length ≤ 524288
/-- A record came, in part, or not at all; what was ahead is safe. -/
structure Torn (d : Dk) (B : List (List Bs)) (b : List Bs) : Prop where
  s : d.s = recsP B ∨ d.s = recsP B ++ recP b
  may : ∀ x ∈ B, mayR x = true
  mayb : mayR b = true
  safe : d.safe = ((recsP B).length : Int)
  room : d.room = 524288
  len : d.s.length ≤ 524288
/-- What is there is whole, but for an end that tells nothing; all of it is safe. -/
structure Sc (d : Dk) (B : List (List Bs)) : Prop where
  s : ∃ tail, d.s = recsP B ++ tail ∧ nextP tail = none
  may : ∀ x ∈ B, mayR x = true
  safe : d.safe = (d.s.length : Int)
  room : d.room = 524288
  len : d.s.length ≤ 524288
theorem Jn.torn {d : Dk} {B : List (List Bs)} (h : Jn d B) {b : List Bs} (hb : mayR b = true) : Torn d B b :=
  ⟨.inl h.s, h.may, hb, by rw [h.safe, h.s], h.room, h.len⟩
theorem Jn.sc {d : Dk} {B : List (List Bs)} (h : Jn d B) : Sc d B :=
  ⟨⟨[], by rw [List.append_nil]; exact h.s, nextP_nil⟩, h.may, h.safe, h.room, h.len⟩
theorem burnt_keeps (d : Dk) : (burntD d).1.s = d.s ∧ (burntD d).1.safe = d.safe ∧ (burntD d).1.room = d.room := by
  unfold burntD
  split
  · exact ⟨rfl, rfl, rfl⟩
  · split <;> exact ⟨rfl, rfl, rfl⟩
theorem burnt_fine {d : Dk} (h : (burntD d).2 = 0) : (burntD d).1.down = d.down := (burnt_same h).2.2.1
theorem write_two {d : Dk} {B : List (List Bs)} (h : Jn d B) {b : List Bs} (hb : mayR b = true) :
    ((writeD d b).2 = 0 ∧ Jn (writeD d b).1 (B ++ [b])) ∨ ((writeD d b).2 ≠ 0 ∧ Torn (writeD d b).1 B b) := by
  have hbk := burnt_keeps d
  unfold writeD
  by_cases hsp : d.room - (d.s.length : Int) < ((recP b).length : Int)
  · have e : appD d (recP b) = (d, 310) := by unfold appD; rw [h.down, if_neg (by decide), if_pos hsp]
    rw [e, if_neg (by simp)]
    exact .inr ⟨by simp, h.torn hb⟩
  · by_cases hbu : (burntD d).2 = 0
    · have e : appD d (recP b) = (⟨d.s ++ recP b, d.safe, d.room, (burntD d).1.fuse, d.down⟩, 0) := by unfold appD; rw [h.down, if_neg (by decide), if_neg hsp, if_pos hbu]
      rw [e, if_pos rfl]
      generalize (burntD d).1.fuse = fu at *
      have hlen : (d.s ++ recP b).length ≤ 524288 := by rw [List.length_append]; have := h.room; omega
      have hbk2 := burnt_keeps ⟨d.s ++ recP b, d.safe, d.room, fu, d.down⟩
      by_cases hb2 : (burntD ⟨d.s ++ recP b, d.safe, d.room, fu, d.down⟩).2 = 0
      · left
        have e2 : syncD ⟨d.s ++ recP b, d.safe, d.room, fu, d.down⟩ = (⟨d.s ++ recP b, ((d.s ++ recP b).length : Int), d.room, (burntD ⟨d.s ++ recP b, d.safe, d.room, fu, d.down⟩).1.fuse, d.down⟩, 0) := by
          unfold syncD
          simp only
          rw [h.down] at hb2 ⊢
          rw [if_neg (by decide), if_pos hb2]
        rw [e2]
        refine ⟨rfl, ⟨?_, ?_, rfl, h.room, h.down, hlen⟩⟩
        · simp only
          rw [recsP_snoc, h.s]
        · intro x hx
          rcases List.mem_append.1 hx with hx | hx
          · exact h.may x hx
          · rw [List.mem_singleton] at hx; rw [hx]; exact hb
      · right
        have e2 : syncD ⟨d.s ++ recP b, d.safe, d.room, fu, d.down⟩ = burntD ⟨d.s ++ recP b, d.safe, d.room, fu, d.down⟩ := by
          unfold syncD
          simp only
          rw [h.down] at hb2 ⊢
          rw [if_neg (by decide), if_neg hb2]
        rw [e2]
        simp only at hbk2
        refine ⟨hb2, ⟨.inr (by rw [hbk2.1, h.s]), h.may, hb, by rw [hbk2.2.1, h.safe, h.s], by rw [hbk2.2.2]; exact h.room, by rw [hbk2.1]; exact hlen⟩⟩
    · have e : appD d (recP b) = burntD d := by unfold appD; rw [h.down, if_neg (by decide), if_neg hsp, if_neg hbu]
      rw [e, if_neg hbu]
      exact .inr ⟨hbu, ⟨.inl (by rw [hbk.1]; exact h.s), h.may, hb, by rw [hbk.2.1, h.safe, h.s], by rw [hbk.2.2]; exact h.room, by rw [hbk.1]; exact h.len⟩⟩
theorem crash_torn {d : Dk} {B : List (List Bs)} {b : List Bs} (h : Torn d B b) (keep : Int) : ∃ B', (B' = B ∨ B' = B ++ [b]) ∧ Sc (crashD d keep) B' := by
  obtain ⟨n, hn⟩ : ∃ n : Nat, crashN d keep = (n : Int) := ⟨(crashN d keep).toNat, by have := h.safe; unfold crashN; rcases h.s with e | e <;> rw [e] <;> (try rw [List.length_append]) <;> omega⟩
  have hsl : (recsP B).length ≤ n ∧ n ≤ d.s.length := by
    have := h.safe
    unfold crashN at hn
    rcases h.s with e | e <;> rw [e] at hn ⊢ <;> (try rw [List.length_append] at hn ⊢) <;> omega
  have e0 : crashD d keep = ⟨d.s.take n, (n : Int), d.room, -1, false⟩ := by unfold crashD; rw [hn]; rfl
  have hl := h.len
  rw [e0]
  have htl : (d.s.take n).length = n := by rw [List.length_take]; omega
  rcases h.s with e | e
  · have : n = (recsP B).length := by rw [e] at hsl; omega
    have ht : d.s.take n = recsP B := by rw [e, this, List.take_length]
    exact ⟨B, .inl rfl, ⟨⟨[], by rw [List.append_nil]; exact ht, nextP_nil⟩, h.may, by simp only; rw [htl], h.room, by simp only; omega⟩⟩
  · have ht : d.s.take n = recsP B ++ (recP b).take (n - (recsP B).length) := by rw [e, List.take_append, List.take_of_length_le (by omega)]
    by_cases hf : n = d.s.length
    · refine ⟨B ++ [b], .inr rfl, ⟨⟨[], by rw [List.append_nil, recsP_snoc, ← e, hf]; exact List.take_length .., nextP_nil⟩, ?_, by simp only; rw [htl], h.room, by simp only; omega⟩⟩
      intro x hx
      rcases List.mem_append.1 hx with hx | hx
      · exact h.may x hx
      · rw [List.mem_singleton] at hx; rw [hx]; exact h.mayb
    · refine ⟨B, .inl rfl, ⟨⟨_, ht, nextP_cut h.mayb _ ?_⟩, h.may, by simp only; rw [htl], h.room, by simp only; omega⟩⟩
      rw [e, List.length_append] at hsl hf
      omega
theorem crash_sc {d : Dk} {B : List (List Bs)} (h : Sc d B) (keep : Int) : Sc (crashD d keep) B ∧ (crashD d keep).s = d.s := by
  have hn : crashN d keep = (d.s.length : Int) := by unfold crashN; have := h.safe; omega
  have e0 : crashD d keep = ⟨d.s, (d.s.length : Int), d.room, -1, false⟩ := by
    unfold crashD
    rw [hn, Int.toNat_natCast, List.take_length]
  rw [e0]
  exact ⟨⟨h.s, h.may, rfl, h.room, h.len⟩, rfl⟩
theorem fuse_sc {d : Dk} {B : List (List Bs)} (h : Sc d B) (n : Int) : Sc (fuseD d n) B := ⟨h.s, h.may, h.safe, h.room, h.len⟩
/-- The disk behind an opening, of which so much is whole; and the code. -/
def openD (d : Dk) (n : Nat) : Dk × Int := if n < d.s.length then (if (cutD d n).2 = 0 then syncD (cutD d n).1 else cutD d n) else syncD d
theorem sync_sc {d : Dk} {B : List (List Bs)} (h : Sc d B) : Sc (syncD d).1 B := by
  have hbk := burnt_keeps d
  unfold syncD
  split
  · exact h
  · split
    · exact ⟨h.s, h.may, rfl, h.room, h.len⟩
    · exact ⟨by rw [hbk.1]; exact h.s, h.may, by rw [hbk.1, hbk.2.1]; exact h.safe, by rw [hbk.2.2]; exact h.room, by rw [hbk.1]; exact h.len⟩
theorem cut_sc {d : Dk} {B : List (List Bs)} (h : Sc d B) : Sc (cutD d (recsP B).length).1 B := by
  have hbk := burnt_keeps d
  unfold cutD
  split
  · exact h
  · split
    · obtain ⟨tail, e, _⟩ := h.s
      have ht : d.s.take (recsP B).length = recsP B := by rw [e, List.take_left]
      have hl := h.len
      have hsf := h.safe
      have hle : (recsP B).length ≤ d.s.length := by rw [e, List.length_append]; omega
      exact ⟨⟨[], by rw [List.append_nil]; exact ht, nextP_nil⟩, h.may, by simp only; rw [ht]; omega, h.room, by simp only; rw [ht]; omega⟩
    · exact ⟨by rw [hbk.1]; exact h.s, h.may, by rw [hbk.1, hbk.2.1]; exact h.safe, by rw [hbk.2.2]; exact h.room, by rw [hbk.1]; exact h.len⟩
theorem open_sc {d : Dk} {B : List (List Bs)} (h : Sc d B) : Sc (openD d (recsP B).length).1 B := by
  unfold openD
  split
  · split
    · exact sync_sc (cut_sc h)
    · exact cut_sc h
  · exact sync_sc h
theorem open_fine {d : Dk} {B : List (List Bs)} (hd : d.down = false) (hf : d.fuse = -1) : (openD d (recsP B).length).2 = 0 := by
  have hb : burntD d = (d, 0) := burnt_neg (by omega)
  unfold openD
  split
  · have e : cutD d (recsP B).length = (⟨d.s.take (recsP B).length, min d.safe ((recsP B).length : Int), d.room, d.fuse, d.down⟩, 0) := by
      unfold cutD
      rw [hd, if_neg (by decide), hb, if_pos rfl]
    rw [e, if_pos rfl]
    unfold syncD
    simp only
    rw [hd, if_neg (by decide), burnt_neg (by simp only; omega), if_pos rfl]
  · unfold syncD
    rw [hd, if_neg (by decide), hb, if_pos rfl]
end Go.Proofs.YthgjdaomcpinaaaGreatDoor

/- Own rows, in general: what they lie in, what leaves them; append of one element of one cell. -/
set_option linter.unusedSimpArgs false
set_option linter.unusedVariables false
namespace Go.Proofs.YthgjdaomcpinaaaGreatDoor
open Go.RowKit Pl

abbrev nilSl : Value := .slice none 0 0
section
variable {w w' : World} {b b1 b2 s s1 s2 n m : Nat} {e e1 e2 : TypeId} {u v : Value} {xs ys : List Value}
theorem kinds_neO (h1 : w.ownsRow b1 e1 s1 u n xs) (h2 : w.ownsRow b2 e2 s2 v m ys) (hne : e1 ≠ e2) : ∀ k, u.ownBlock = some k → v.ownBlock ≠ some k := by
  intro k hu hv
  obtain ⟨c, f, q⟩ := Lib.ownsRow_kind h1 k hu
  obtain ⟨c2, f2, q2⟩ := Lib.ownsRow_kind h2 k hv
  rw [q] at q2
  injection q2 with q2
  injection q2 with _ q2 _
  exact hne q2
theorem row_keptO (h : w.ownsRow b e s v n xs) (hb : ∀ k, v.ownBlock = some k → w'.heap[k]? = w.heap[k]?) : w'.ownsRow b e s v n xs := by
  refine ⟨h.1, h.2.imp id ?_⟩
  rintro ⟨g, cap, cur, hv, h1, h2, h3⟩
  subst hv
  exact ⟨g, cap, cur, rfl, h1, (hb g rfl).trans h2, h3⟩
theorem row_ltO (h : w.ownsRow b e s v n xs) {k : Nat} (hk : v.ownBlock = some k) : b ≤ k ∧ k < w.heap.size := by
  rcases h.2 with ⟨rfl, _⟩ | ⟨g, cap, cur, rfl, h1, h2, _⟩
  · cases hk
  · cases hk
    refine ⟨h1, ?_⟩
    rcases Nat.lt_or_ge g w.heap.size with hlt | hge
    · exact hlt
    · rw [Array.getElem?_eq_none hge] at h2; cases h2
theorem row_modO {l : List Nat} (h : w.ownsRow b e s v n xs) (hm : Mod l w w') (hn : ∀ k, v.ownBlock = some k → k ∉ l) : w'.ownsRow b e s v n xs :=
  row_keptO h (fun k hk => hm.block k (row_ltO h hk).2 (hn k hk))
theorem row_belowO (h : w.ownsRow b e s v n xs) (hb : Below w.heap.size w w') : w'.ownsRow b e s v n xs :=
  row_keptO h (fun k hk => hb.block k (row_ltO h hk).2)
theorem row_lowO (h : w.ownsRow b e s v n xs) {c : Nat} (hc : c ≤ b) : w.ownsRow c e s v n xs := by
  refine ⟨h.1, h.2.imp id ?_⟩
  rintro ⟨g, cap, cur, hv, h1, h2⟩
  exact ⟨g, cap, cur, hv, Nat.le_trans hc h1, h2⟩
theorem row_grownO (h : w.ownsRow b e s v n xs) {r : Option Nat} (hg : w.grownBy w' r) (hn : ∀ k, v.ownBlock = some k → r ≠ some k) : w'.ownsRow b e s v n xs :=
  row_keptO h (fun k hk => hg.block k (row_ltO h hk).2 (fun e => hn k hk e.symm))
theorem row_openO (h : w.ownsRow b e s v n xs) : (v = .slice none 0 0 ∧ n = 0) ∨ ∃ g cap, v = .slice (some ⟨g, 0, none⟩) n cap ∧ b ≤ g ∧ g < w.heap.size ∧ n ≤ cap ∧ cap ≤ maxLen ∧ (∀ j, j < n * s → w.cell? ⟨g, j, none⟩ = xs[j]?) ∧ (∀ o, w.frozen? ⟨g, o, none⟩ = false) := by
  rcases h.2 with ⟨h1, h0⟩ | ⟨g, cap, cur, rfl, h1, h2, h3, h4, h5, h6⟩
  · exact .inl ⟨h1, h0⟩
  · refine .inr ⟨g, cap, rfl, h1, (row_ltO h rfl).2, h3, h4, fun j hj => ?_, fun o => ?_⟩
    · rw [← h6, List.getElem?_take, if_pos hj]
      simp [World.cell?, h2]
    · simp [World.frozen?, h2]
theorem row_formO (h : w.ownsRow b e s v n xs) : ∃ a c, v = .slice a n c := by
  rcases h.2 with ⟨h1, rfl⟩ | ⟨g, cap, cur, rfl, _⟩
  · exact ⟨none, 0, h1⟩
  · exact ⟨_, cap, rfl⟩
end
section
variable {ops : Array Oper} {o : Oper} {rest : List Oper} {a : Act} {w : World} {Q : Exit → Act → World → Prop}
/-- append(v, x) of one element of some cells: where the new slice lies, too. -/
theorem wp_appG {K : Act → World → Prop} (s x : Operand) (T e : TypeId) (z : Value) (sz by0 : Nat) (hT : Tryz.prog.underlying T = some (.slice e))
    (hinfo : (Tryz.prog.info? e).map (fun i => (i.zero, i.size, i.bytes)) = some (some z, sz, by0)) (hz : z.cells.size = sz) (hsz : 0 < sz) (hby : by0 ≤ 1000)
    (ho : o.op = .call { callee := .builtin .append, args := #[s, x], argTypes := #[T, T] })
    (base n : Nat) (v : Value) (xs us : List Value) (hs : a.eval s = v) (hown : w.ownsRow base e sz v n xs) (hus : us.length = sz)
    (q : Nat) (hx : a.eval x = .slice (some ⟨q, 0, none⟩) 1 1) (hq : ∀ j u, us[j]? = some u → w.cell? ⟨q, j, none⟩ = some u) (hu : ∀ u ∈ us, u.oneCell' = true)
    (hlen : n ≤ 1000000) (hbase : base ≤ w.heap.size)
    (h : ∀ v' w', w'.ownsRow base e sz v' (n + 1) (xs ++ us) → w.grownBy w' v.ownBlock → (v'.ownBlock = v.ownBlock ∨ v'.ownBlock = some w.heap.size) → K (a.put o.dst v') w') : o.wp Tryz.prog a w K Q := by
  obtain ⟨i0, hi, hz0, hz1, hz2⟩ := info_parts hinfo
  obtain ⟨v', w', hr, k2, k3, _, k5⟩ := run_append_own_at (P := Tryz.prog) w base T o.type e i0 z sz by0 hT hi hz0 hz1 hz2 hz hsz v n xs hown ⟨q, 0, none⟩ 1 1 us (by simpa using hus)
    (fun j y hj => by have := hq j y hj; rw [Addr.add_lit, Nat.zero_add]; exact this) hu (by unfold maxLen; omega)
    (by have : (n + 1) * by0 ≤ (n + 1) * 1000 := Nat.mul_le_mul_left _ hby; omega) hbase
  unfold Oper.wp execOp
  simp only [ho, resolve, invoke, builtin, Sem.run_bind, Sem.run_pure, Result.andThen_ok, List.map_toArray, List.map_cons, List.map_nil, hs, hx, hr]
  exact h v' w' k2 k3 k5
theorem wpList_appG (hgd : o.guard = none) (s x : Operand) (T e : TypeId) (z : Value) (sz by0 : Nat) (hT : Tryz.prog.underlying T = some (.slice e))
    (hinfo : (Tryz.prog.info? e).map (fun i => (i.zero, i.size, i.bytes)) = some (some z, sz, by0)) (hz : z.cells.size = sz) (hsz : 0 < sz) (hby : by0 ≤ 1000)
    (ho : o.op = .call { callee := .builtin .append, args := #[s, x], argTypes := #[T, T] })
    (base n : Nat) (v : Value) (xs us : List Value) (hs : a.eval s = v) (hown : w.ownsRow base e sz v n xs) (hus : us.length = sz)
    (q : Nat) (hx : a.eval x = .slice (some ⟨q, 0, none⟩) 1 1) (hq : ∀ j u, us[j]? = some u → w.cell? ⟨q, j, none⟩ = some u) (hu : ∀ u ∈ us, u.oneCell' = true)
    (hlen : n ≤ 1000000) (hbase : base ≤ w.heap.size)
    (h : ∀ v' w', w'.ownsRow base e sz v' (n + 1) (xs ++ us) → w.grownBy w' v.ownBlock → (v'.ownBlock = v.ownBlock ∨ v'.ownBlock = some w.heap.size) → wpList Tryz.prog ops Q rest (a.put o.dst v') w') : wpList Tryz.prog ops Q (o :: rest) a w :=
  wpList_plain hgd fun _ hK => wp_appG s x T e z sz by0 hT hinfo hz hsz hby ho base n v xs us hs hown hus q hx hq hu hlen hbase fun v' w' h2 h3 h4 => hK _ _ (h v' w' h2 h3 h4)
end
theorem grown_modO {w w' : World} {r : Option Nat} (h : w.grownBy w' r) : Mod r.toList w w' :=
  ⟨h.os, h.tape, h.output, h.size, fun k hk hn => h.block k hk (fun e => hn (by rw [← e]; simp))⟩
theorem SRow.grownO {w w' : World} {base : Nat} {v : Value} {l : List Bs} (h : SRow w base v l) {r : Option Nat} (hg : w.grownBy w' r) (hn : ∀ k, v.ownBlock = some k → r ≠ some k) : SRow w' base v l := row_grownO h hg hn

/-! ### lists of lists of texts -/
theorem infoSS : (Tryz.prog.info? 22).map (fun i => (i.zero, i.size, i.bytes)) = some (some (.slice none 0 0), 1, 24) := by kernel_rfl
/-- v is a list of lists of texts, all of it from base on. -/
def LS (w : World) (base : Nat) (v : Value) (B : List (List Bs)) : Prop :=
  ∃ ts : List Value, ts.length = B.length ∧ w.ownsRow base 22 1 v B.length ts ∧ ∀ i, i < B.length → SRow w base (ts.getD i nilSl) (B.getD i [])
theorem LS.nil (w : World) (base : Nat) : LS w base (.slice none 0 0) [] := ⟨[], rfl, ⟨rfl, .inl ⟨rfl, rfl⟩⟩, fun i hi => by cases hi⟩
theorem LS.keep {w w' : World} {base : Nat} {v : Value} {B : List (List Bs)} (h : LS w base v B) (hb : Below w.heap.size w w') : LS w' base v B := by
  obtain ⟨ts, h1, h2, h3⟩ := h
  exact ⟨ts, h1, row_belowO h2 hb, fun i hi => (h3 i hi).keep hb⟩
theorem LS.low {w : World} {base c : Nat} {v : Value} {B : List (List Bs)} (h : LS w base v B) (hc : c ≤ base) : LS w c v B := by
  obtain ⟨ts, h1, h2, h3⟩ := h
  exact ⟨ts, h1, row_lowO h2 hc, fun i hi => (h3 i hi).low hc⟩
theorem LS.modl {w w' : World} {base : Nat} {v : Value} {B : List (List Bs)} {l : List Nat} (h : LS w base v B) (hm : Mod l w w') (hl : ∀ x ∈ l, x < base) : LS w' base v B := by
  obtain ⟨ts, h1, h2, h3⟩ := h
  have hn : ∀ {b0 : Nat} {e : TypeId} {s n : Nat} {u : Value} {xs : List Value}, w.ownsRow base e s u n xs → ∀ k, u.ownBlock = some k → k ∉ l := fun hr k hk hi => by
    have h4 := (row_ltO hr hk).1
    have h5 := hl k hi
    omega
  exact ⟨ts, h1, row_modO h2 hm (hn (b0 := 0) h2), fun i hi => row_modO (h3 i hi) hm (hn (b0 := 0) (h3 i hi))⟩
theorem LS.form {w : World} {base : Nat} {v : Value} {B : List (List Bs)} (h : LS w base v B) : ∃ a c, v = .slice a B.length c := by
  obtain ⟨ts, h1, h2, h3⟩ := h
  exact row_formO h2
theorem LS.at {w : World} {base : Nat} {a : Option Addr} {c : Nat} {B : List (List Bs)} (h : LS w base (.slice a B.length c) B) (i : Nat) (hi : i < B.length) :
    ∃ g u, a = some ⟨g, 0, none⟩ ∧ g < w.heap.size ∧ w.cell? ⟨g, i, none⟩ = some u ∧ SRow w base u (B.getD i []) := by
  obtain ⟨ts, h1, h2, h3⟩ := h
  rcases row_openO h2 with ⟨e, h0⟩ | ⟨g, cap, e, k1, k2, k3, k4, k5, k6⟩
  · omega
  · injection e with e _ _
    refine ⟨g, ts.getD i nilSl, e, k2, ?_, h3 i hi⟩
    rw [k5 i (by omega), List.getD_eq_getElem?_getD, List.getElem?_eq_getElem (by omega)]
    rfl
/-- One list comes behind. -/
theorem LS.snoc {w w' : World} {base : Nat} {v v' u : Value} {B : List (List Bs)} {b : List Bs} (h : LS w base v B) (hu : SRow w base u b) (hg : w.grownBy w' v.ownBlock) {ts : List Value} (ht : ts.length = B.length) (h3 : ∀ i, i < B.length → SRow w base (ts.getD i nilSl) (B.getD i []))
    (hr0 : w.ownsRow base 22 1 v B.length ts) (hr : w'.ownsRow base 22 1 v' (B.length + 1) (ts ++ [u])) : LS w' base v' (B ++ [b]) := by
  refine ⟨ts ++ [u], by simp [ht], by rw [List.length_append]; exact hr, fun i hi => ?_⟩
  have hk : ∀ {x : Value} {l : List Bs}, SRow w base x l → SRow w' base x l := fun hx => hx.grownO hg (fun k hk e => kinds_neO hx hr0 (by decide) k hk e)
  by_cases hlt : i < B.length
  · have e1 : (ts ++ [u]).getD i nilSl = ts.getD i nilSl := by rw [List.getD_eq_getElem?_getD, List.getD_eq_getElem?_getD, List.getElem?_append_left (by omega)]
    have e2 : (B ++ [b]).getD i [] = B.getD i [] := by rw [List.getD_eq_getElem?_getD, List.getD_eq_getElem?_getD, List.getElem?_append_left hlt]
    rw [e1, e2]
    exact hk (h3 i hlt)
  · have hil : i = B.length := by rw [List.length_append, List.length_singleton] at hi; omega
    subst hil
    have e1 : (ts ++ [u]).getD B.length nilSl = u := by rw [← ht]; simp
    have e2 : (B ++ [b]).getD B.length [] = b := by simp
    rw [e1, e2]
    exact hk hu
end Go.Proofs.YthgjdaomcpinaaaGreatDoor
