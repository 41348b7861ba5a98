/- TTrimP, TSameI, PairV, Below. -/
import Derived.Test.YthgjdaomcpinaaaGreatDoorMg5
import Derived.Test.YthgjdaomcpinaaaGreatDoorMg4
import Derived.Test.YthgjdaomcpinaaaGreatDoorMg26
import Derived.Test.YthgjdaomcpinaaaGreatDoorRows
import Derived.Test.YthgjdaomcpinaaaGreatDoorMg3
import Derived.Test.YthgjdaomcpinaaaGreatDoorMi2
import Derived.Test.YthgjdaomcpinaaaGreatDoorMi3
set_option linter.unnecessarySimpa false

/- Plain: what Trim leaves. -/
set_option linter.unusedSimpArgs false
set_option linter.unusedVariables false
namespace Go.Proofs.YthgjdaomcpinaaaGreatDoor
open Go.RowKit Go.Maps Pl

/-- What stays, of heights from the highest on; n stay already. -/
def stayL (F : Int → Bool) (most : Int) : Nat → List Int → List Int
  | _, [] => []
  | n, k :: r => if n = 0 ∨ (F k = true ∧ (n : Int) < most) then k :: stayL F most (n + 1) r else stayL F most n r
/-- What goes. -/
def goneL (F : Int → Bool) (most : Int) : Nat → List Int → List Int
  | _, [] => []
  | n, k :: r => if n = 0 ∨ (F k = true ∧ (n : Int) < most) then goneL F most (n + 1) r else k :: goneL F most n r
theorem trimG_gone {T : List (Int × Tr)} {span now most : Int} : ∀ (l g : List Int) (i n : Nat), i = n + g.length → (i = 0 ↔ n = 0) → trimG T span now most i g l = g ++ goneL (freshK T span now) most n l
  | [], g, i, n, _, _ => by show g = g ++ []; rw [List.append_nil]
  | k :: r, g, i, n, hi, hz => by
    rw [trimG_cons, goneL]
    by_cases h : n = 0 ∨ (freshK T span now k = true ∧ (n : Int) < most)
    · rw [if_pos h, if_neg (by rintro ⟨h1, h2⟩; exact h.elim (fun h => by omega) (fun h => h2 ⟨h.1, by omega⟩))]
      exact trimG_gone r g (i + 1) (n + 1) (by omega) (by omega)
    · have h1 : ¬ n = 0 := fun e => h (.inl e)
      rw [if_neg h, if_pos ⟨by omega, fun h2 => h (.inr ⟨h2.1, by omega⟩)⟩, trimG_gone r (g ++ [k]) (i + 1) n (by simp; omega) (by omega)]
      simp
theorem stayL_len {F : Int → Bool} {most : Int} : ∀ (l : List Int) (n : Nat), (stayL F most n l).length + (goneL F most n l).length = l.length
  | [], n => rfl
  | k :: r, n => by
    rw [stayL, goneL]
    by_cases h : n = 0 ∨ (F k = true ∧ (n : Int) < most)
    · rw [if_pos h, if_pos h, List.length_cons, List.length_cons]
      have := stayL_len (F := F) (most := most) r (n + 1)
      omega
    · rw [if_neg h, if_neg h, List.length_cons, List.length_cons]
      have := stayL_len (F := F) (most := most) r n
      omega
theorem stayL_most {F : Int → Bool} {most : Int} (hm : 1 ≤ most) : ∀ (l : List Int) (n : Nat), (n : Int) ≤ most → (n : Int) + (stayL F most n l).length ≤ most
  | [], n, h => by show (n : Int) + ((0 : Nat) : Int) ≤ most; omega
  | k :: r, n, hn => by
    rw [stayL]
    by_cases h : n = 0 ∨ (F k = true ∧ (n : Int) < most)
    · rw [if_pos h, List.length_cons]
      have := stayL_most (F := F) hm r (n + 1) (by rcases h with h | h <;> omega)
      omega
    · rw [if_neg h]
      exact stayL_most hm r n hn
theorem stayL_sub {F : Int → Bool} {most : Int} : ∀ (l : List Int) (n : Nat), (stayL F most n l).Sublist l
  | [], n => List.Sublist.refl _
  | k :: r, n => by
    rw [stayL]
    by_cases h : n = 0 ∨ (F k = true ∧ (n : Int) < most)
    · rw [if_pos h]; exact (stayL_sub r (n + 1)).cons_cons k
    · rw [if_neg h]; exact (stayL_sub r n).cons k
theorem goneL_sub {F : Int → Bool} {most : Int} : ∀ (l : List Int) (n : Nat), (goneL F most n l).Sublist l
  | [], n => List.Sublist.refl _
  | k :: r, n => by
    rw [goneL]
    by_cases h : n = 0 ∨ (F k = true ∧ (n : Int) < most)
    · rw [if_pos h]; exact (goneL_sub r (n + 1)).cons k
    · rw [if_neg h]; exact (goneL_sub r n).cons_cons k
theorem stayL_mem {F : Int → Bool} {most : Int} {x : Int} : ∀ (l : List Int) (n : Nat), l.Nodup → (x ∈ stayL F most n l ↔ x ∈ l ∧ x ∉ goneL F most n l)
  | [], n, _ => by show x ∈ [] ↔ _; simp
  | k :: r, n, hn => by
    rw [List.nodup_cons] at hn
    rw [stayL, goneL]
    by_cases h : n = 0 ∨ (F k = true ∧ (n : Int) < most)
    · rw [if_pos h, if_pos h, List.mem_cons, List.mem_cons, stayL_mem r (n + 1) hn.2]
      constructor
      · rintro (rfl | ⟨h1, h2⟩)
        · exact ⟨.inl rfl, fun h3 => hn.1 ((goneL_sub r (n + 1)).subset h3)⟩
        · exact ⟨.inr h1, h2⟩
      · rintro ⟨rfl | h1, h2⟩
        · exact .inl rfl
        · exact .inr ⟨h1, h2⟩
    · rw [if_neg h, if_neg h, List.mem_cons, List.mem_cons, stayL_mem r n hn.2]
      constructor
      · rintro ⟨h1, h2⟩
        refine ⟨.inr h1, ?_⟩
        rintro (rfl | h3)
        · exact hn.1 h1
        · exact h2 h3
      · rintro ⟨h1, h2⟩
        rcases h1 with rfl | h1
        · exact absurd (.inl rfl) h2
        · exact ⟨h1, fun h3 => h2 (.inr h3)⟩
theorem goneL_keep {F G : Int → Bool} {most : Int} : ∀ (l : List Int) (n : Nat), (∀ k ∈ stayL F most n l, G k = F k) → goneL G most n (stayL F most n l) = []
  | [], n, _ => rfl
  | k :: r, n, h => by
    rw [stayL] at h ⊢
    by_cases hc : n = 0 ∨ (F k = true ∧ (n : Int) < most)
    · rw [if_pos hc] at h ⊢
      have hk := h k (List.mem_cons_self ..)
      rw [goneL, if_pos (by rw [hk]; exact hc)]
      exact goneL_keep r (n + 1) (fun x hx => h x (List.mem_cons_of_mem _ hx))
    · rw [if_neg hc] at h ⊢
      exact goneL_keep r n h
theorem stayL_fresh {F : Int → Bool} {most : Int} {x : Int} : ∀ (l : List Int) (n : Nat), n ≠ 0 → x ∈ stayL F most n l → F x = true
  | [], n, _, h => by cases h
  | k :: r, n, hn, h => by
    rw [stayL] at h
    by_cases hc : n = 0 ∨ (F k = true ∧ (n : Int) < most)
    · rw [if_pos hc] at h
      rcases List.mem_cons.1 h with rfl | h
      · exact (hc.resolve_left hn).1
      · exact stayL_fresh r (n + 1) (by omega) h
    · rw [if_neg hc] at h
      exact stayL_fresh r n hn h
/-! ### the map behind it -/
def delL (T : List (Int × Tr)) (l : List Int) : List (Int × Tr) := l.foldl delK T
theorem delL_mem {e : Int × Tr} : ∀ (l : List Int) (T : List (Int × Tr)), e ∈ delL T l ↔ e ∈ T ∧ e.1 ∉ l
  | [], T => by show e ∈ T ↔ _; simp
  | k :: r, T => by
    show e ∈ delL (delK T k) r ↔ _
    rw [delL_mem r (delK T k)]
    unfold delK
    rw [List.mem_filter, List.mem_cons]
    simp only [decide_eq_true_eq]
    constructor
    · rintro ⟨⟨h1, h2⟩, h3⟩
      exact ⟨h1, fun h => h.elim h2 h3⟩
    · rintro ⟨h1, h2⟩
      exact ⟨⟨h1, fun h => h2 (.inl h)⟩, fun h => h2 (.inr h)⟩
theorem delL_sub : ∀ (l : List Int) (T : List (Int × Tr)), (delL T l).Sublist T
  | [], T => List.Sublist.refl _
  | k :: r, T => (delL_sub r (delK T k)).trans List.filter_sublist
theorem delL_nodup {l : List Int} {T : List (Int × Tr)} (h : (hts T).Nodup) : (hts (delL T l)).Nodup := List.Nodup.sublist (List.Sublist.map _ (delL_sub l T)) h
theorem delL_keys {l : List Int} {T : List (Int × Tr)} {k : Int} : k ∈ hts (delL T l) ↔ k ∈ hts T ∧ k ∉ l := by
  unfold hts
  rw [List.mem_map, List.mem_map]
  constructor
  · rintro ⟨e, he, rfl⟩
    rw [delL_mem] at he
    exact ⟨⟨e, he.1, rfl⟩, he.2⟩
  · rintro ⟨⟨e, he, rfl⟩, h2⟩
    exact ⟨e, (delL_mem l T).2 ⟨he, h2⟩, rfl⟩
theorem drops_ok : ∀ (l : List Int) (T : List (Int × Tr)), l.Nodup → (∀ k ∈ l, k ∈ hts T) → dropsT l T = some (delL T l)
  | [], T, _, _ => rfl
  | k :: r, T, hn, h => by
    rw [List.nodup_cons] at hn
    rw [dropsT, if_pos (show k ∈ List.map (fun x => x.fst) T from h k (List.mem_cons_self ..))]
    exact drops_ok r (delK T k) hn.2 (fun x hx => delK_keys.2 ⟨h x (List.mem_cons_of_mem _ hx), fun e => hn.1 (e ▸ hx)⟩)
theorem TInv.sub {T T' : List (Int × Tr)} (h : TInv T) (hs : T'.Sublist T) : TInv T' := fun e he => h e (hs.subset he)
theorem fresh_del {T : List (Int × Tr)} (hn : (hts T).Nodup) {l : List Int} {span now k : Int} (h : k ∈ hts (delL T l)) : freshK (delL T l) span now k = freshK T span now k := by
  obtain ⟨t, ht⟩ := hts_mem h
  rw [fresh_some (lookK_in (delL_nodup hn) ht), fresh_some (lookK_in hn ((delL_mem l T).1 ht).1)]
theorem sorted_uniq : ∀ (a b : List Int), a.Pairwise (· < ·) → b.Pairwise (· < ·) → (∀ x, x ∈ a ↔ x ∈ b) → a = b
  | [], [], _, _, _ => rfl
  | [], y :: r, _, _, h => by have := (h y).2 (List.mem_cons_self ..); cases this
  | x :: r, [], _, _, h => by have := (h x).1 (List.mem_cons_self ..); cases this
  | x :: r, y :: s, ha, hb, h => by
    rw [List.pairwise_cons] at ha hb
    have hxy : x = y := by
      rcases List.mem_cons.1 ((h x).1 (List.mem_cons_self ..)) with e | e
      · exact e
      · rcases List.mem_cons.1 ((h y).2 (List.mem_cons_self ..)) with e2 | e2
        · exact e2.symm
        · have h1 := hb.1 x e; have h2 := ha.1 y e2; omega
    subst hxy
    rw [sorted_uniq r s ha.2 hb.2 (fun z => ?_)]
    constructor
    · intro hz
      rcases List.mem_cons.1 ((h z).1 (List.mem_cons_of_mem _ hz)) with e | e
      · have := ha.1 z hz; omega
      · exact e
    · intro hz
      rcases List.mem_cons.1 ((h z).2 (List.mem_cons_of_mem _ hz)) with e | e
      · have := hb.1 z hz; omega
      · exact e
theorem strict_of {l : List Int} (h1 : l.Pairwise (· ≤ ·)) (h2 : l.Nodup) : l.Pairwise (· < ·) := by
  have := h1.and h2
  exact this.imp (fun h => by have := h.1; have := h.2; omega)
/-- What Trim leaves. -/
def keptH (T : List (Int × Tr)) (span now most : Int) : List Int := (stayL (freshK T span now) most 0 (sortZ (hts T)).reverse).reverse
theorem gone_eq (T : List (Int × Tr)) (span now most : Int) : goneG T span now most = (goneL (freshK T span now) most 0 (sortZ (hts T)).reverse).reverse := by
  unfold goneG
  rw [trimG_gone (sortZ (hts T)).reverse [] 0 0 rfl Iff.rfl, List.nil_append]
theorem rs_nodup {T : List (Int × Tr)} (hn : (hts T).Nodup) : (sortZ (hts T)).reverse.Nodup := by
  exact (List.reverse_perm _).nodup_iff.2 (sortZ_nodup hn)
theorem gone_nodup {T : List (Int × Tr)} (hn : (hts T).Nodup) (span now most : Int) : (goneG T span now most).Nodup := by
  rw [gone_eq]
  exact (List.reverse_perm _).nodup_iff.2 (List.Nodup.sublist (goneL_sub _ _) (rs_nodup hn))
theorem gone_in {T : List (Int × Tr)} {span now most k : Int} (h : k ∈ goneG T span now most) : k ∈ hts T := by
  rw [gone_eq, List.mem_reverse] at h
  exact sortZ_mem.1 (List.mem_reverse.1 ((goneL_sub _ _).subset h))
theorem left_heights {T : List (Int × Tr)} (hn : (hts T).Nodup) (span now most : Int) : sortZ (hts (delL T (goneG T span now most))) = keptH T span now most := by
  apply sorted_uniq
  · exact strict_of (sortZ_sorted _) (sortZ_nodup (delL_nodup hn))
  · unfold keptH
    rw [List.pairwise_reverse]
    have h1 : (sortZ (hts T)).reverse.Pairwise (fun a b => b < a) := by
      rw [List.pairwise_reverse]
      exact strict_of (sortZ_sorted _) (sortZ_nodup hn)
    exact List.Pairwise.sublist (stayL_sub _ _) h1
  · intro x
    rw [sortZ_mem, delL_keys]
    unfold keptH
    rw [List.mem_reverse, stayL_mem _ _ (rs_nodup hn), List.mem_reverse, sortZ_mem, gone_eq, List.mem_reverse]
theorem gone_again {T : List (Int × Tr)} (hn : (hts T).Nodup) (span now most : Int) : goneG (delL T (goneG T span now most)) span now most = [] := by
  have h := left_heights hn span now most
  rw [gone_eq (delL T _), h]
  unfold keptH
  rw [List.reverse_reverse, goneL_keep]
  · rfl
  · intro k hk
    apply fresh_del hn
    rw [← sortZ_mem, h]
    unfold keptH
    exact List.mem_reverse.2 hk
theorem kept_len (T : List (Int × Tr)) (span now most : Int) : (keptH T span now most).length + (goneG T span now most).length = (sortZ (hts T)).length := by
  rw [gone_eq]
  unfold keptH
  rw [List.length_reverse, List.length_reverse, stayL_len, List.length_reverse]
theorem kept_most {most : Int} (hm : 1 ≤ most) (T : List (Int × Tr)) (span now : Int) : ((keptH T span now most).length : Int) ≤ most := by
  unfold keptH
  rw [List.length_reverse]
  have := stayL_most (F := freshK T span now) hm (sortZ (hts T)).reverse 0 (by omega)
  omega
theorem kept_sub (T : List (Int × Tr)) (span now most : Int) : (keptH T span now most).Sublist (sortZ (hts T)) := by
  have h := (stayL_sub (F := freshK T span now) (most := most) (sortZ (hts T)).reverse 0).reverse
  rw [List.reverse_reverse] at h
  exact h
/-- The highest stays; the others of them are not stale. -/
theorem kept_last {T : List (Int × Tr)} {span now most : Int} (h : sortZ (hts T) ≠ []) : ∃ (a b : List Int) (x : Int), sortZ (hts T) = a ++ [x] ∧ keptH T span now most = b ++ [x] ∧ ∀ k ∈ b, freshK T span now k = true := by
  unfold keptH
  generalize sortZ (hts T) = Hs at *
  rcases List.eq_nil_or_concat Hs with e | ⟨a, x, e⟩
  · exact absurd e h
  · rw [List.concat_eq_append] at e
    subst e
    refine ⟨a, (stayL (freshK T span now) most 1 a.reverse).reverse, x, rfl, ?_, ?_⟩
    · rw [List.reverse_append, List.reverse_singleton, List.singleton_append, stayL, if_pos (.inl rfl), List.reverse_cons]
    · intro k hk
      exact stayL_fresh _ 1 (by omega) (List.mem_reverse.1 hk)
/-! ### how many of them are met -/
def metN (N : List Int) (k : Nat) (h : Int) : Nat := if k < N.length ∧ N[k]? = some h then k + 1 else k
theorem met_all {N : List Int} : ∀ (H : List Int) (k : Nat), (N.drop k).Sublist H → k ≤ N.length → H.foldl (metN N) k = N.length
  | [], k, h, hk => by
    have h0 := List.eq_nil_of_sublist_nil h
    have := congrArg List.length h0
    rw [List.length_drop, List.length_nil] at this
    show k = _
    omega
  | x :: r, k, h, hk => by
    rw [List.foldl_cons]
    by_cases hlt : k < N.length
    · have hd : N.drop k = N[k] :: N.drop (k + 1) := List.drop_eq_getElem_cons hlt
      rw [hd] at h
      by_cases he : N[k] = x
      · have h2 : metN N k x = k + 1 := if_pos ⟨hlt, by rw [List.getElem?_eq_getElem hlt, he]⟩
        rw [h2]
        rw [he] at h
        exact met_all r (k + 1) (List.cons_sublist_cons.1 h) (by omega)
      · have h2 : metN N k x = k := if_neg (by rintro ⟨_, h3⟩; rw [List.getElem?_eq_getElem hlt] at h3; exact he (Option.some.inj h3))
        rw [h2]
        refine met_all r k ?_ hk
        rw [hd]
        cases h with
        | cons _ h => exact h
        | cons_cons _ h => exact absurd rfl he
    · have h2 : metN N k x = k := if_neg (by rintro ⟨h3, _⟩; exact hlt h3)
      rw [h2]
      refine met_all r k ?_ hk
      rw [List.drop_eq_nil_of_le (by omega)]
      exact List.nil_sublist _
/-! ### the disk behind it -/
theorem gone_may {l : List Int} (hl : l.length ≤ 1000) (hk : ∀ k ∈ l, 0 ≤ k ∧ k ≤ 17) : mayR (goesT l) = true := by
  apply may_small _ 500 _ (by rw [goes_len]; exact hl) (by omega)
  intro x hx
  unfold goesT at hx
  obtain ⟨k, hk1, rfl⟩ := List.mem_map.1 hx
  have := num_len' k.toNat
  simp only [List.length_cons]
  omega
theorem drop_one {d : Dk} {n : Nat} {T : List (Int × Tr)} (hd : DkOk d n) (hn : n ≤ 100000) {l : List Int} (hl : l.length ≤ 20) (hnd : l.Nodup) (hin : ∀ k ∈ l, k ∈ hts T) :
    ∃ d', dropD d T l = (d', delL T l, 0, false) ∧ DkOk d' (n + 1000) := by
  have h2 := drops_ok l T hnd hin
  by_cases he : l = []
  · subst he
    exact ⟨d, dropD_none h2, ⟨hd.down, hd.fuse, hd.room, by have := hd.len; omega⟩⟩
  · have hrl := rec_len (goesT l) 30 (by
      intro x hx
      unfold goesT at hx
      obtain ⟨k, hk1, rfl⟩ := List.mem_map.1 hx
      have := num_len' k.toNat
      simp only [List.length_cons]
      omega)
    rw [goes_len] at hrl
    have h39 : l.length * (30 + 9) ≤ 20 * 39 := Nat.mul_le_mul_right _ hl
    have hlen := hd.len
    have hw := writeD_ok d (goesT l) hd.down (by rw [hd.fuse]; omega) (by rw [hd.room]; omega)
    refine ⟨(writeD d (goesT l)).1, ?_, ?_⟩
    · rw [dropD_yes h2 he (by rw [hw]), hw]
      rfl
    · rw [hw]
      exact ⟨rfl, hd.fuse, hd.room, by simp only [List.length_append]; omega⟩
end Go.Proofs.YthgjdaomcpinaaaGreatDoor

/- pharosbook.SameInts of two lists that read alike. -/
set_option linter.unusedSimpArgs false
set_option linter.unusedVariables false
namespace Go.Proofs.YthgjdaomcpinaaaGreatDoor
open Go.RowKit Pl

theorem IS.at {w : World} {a : Option Addr} {c : Nat} {l : List Int} (h : IS w (.slice a l.length c) l) (i : Nat) (hi : i < l.length) :
    ∃ g off, a = some ⟨g, off, none⟩ ∧ w.cell? ⟨g, off + i, none⟩ = some (.int .i64 (l.getD i 0)) := by
  obtain ⟨g, off, e, _, hc⟩ := h.at' i hi
  exact ⟨g, off, e, hc⟩
set_option maxRecDepth 100000 in
set_option maxHeartbeats 1000000 in
theorem sameints_self (u v : Value) (l : List Int) (w : World) (hu : IS w u l) (hv : IS w v l) :
    Calls Tryz.prog 31 #[u, v] w fun e w' => e = .returned (.bool true) ∧ ∃ n, w' = w.drewN n := by
  obtain ⟨a, c, rfl⟩ := hu.form
  obtain ⟨b, d, rfl⟩ := hv.form
  have hls := hu.small
  go_enter Tryz.func31, Tryz.ntmps31
  go_wp2_with fail
  go_loopw [5, 6] (fun s5 s6 wr => ∃ (i : Nat), i ≤ l.length ∧ s6 = .int .i64 i ∧ s5 = .bool true ∧ ∃ n, wr = w.drewN n) (fun _ s6 _ => l.length - (intOf s6).toNat)
  case atStart => exact ⟨0, by omega, rfl, by simp, 0, rfl⟩
  case round =>
    obtain ⟨i, hi, rfl, rfl, nq, rfl⟩ := hrel
    by_cases hlt : i < l.length
    · have hlt' : (i : Int) < (l.length : Int) := by omega
      obtain ⟨g, off, rfl, c1⟩ := hu.at i hlt
      obtain ⟨g2, off2, rfl, c2⟩ := hv.at i hlt
      generalize l.getD i 0 = x at *
      have HU := Lib.hid hu
      have HV := Lib.hid hv
      clear hu hv
      go_wp2_with fail
      go_quiet (fail)
      go_wp2_with fail
      exact ⟨⟨i + 1, by omega, by go_num, by simp, _, rfl⟩, by simp [intOf]; omega⟩
    · have hie : i = l.length := by omega
      have hd : decide ((i : Int) < (l.length : Int)) = false := by simp; omega
      go_wp2_with fail
      go_ret
      exact ⟨rfl, nq, rfl⟩
end Go.Proofs.YthgjdaomcpinaaaGreatDoor

/- Lists of pairs of numbers ([][2]int), to be read; such an argument. -/
set_option linter.unusedVariables false
set_option linter.unusedSimpArgs false
set_option linter.unnecessarySimpa false
namespace Go.Proofs.YthgjdaomcpinaaaGreatDoor
open Go.ChangeShapes Go.WideShapes Go.ChangeAt Go.RowKit Pl

theorem row_two : RowT Tryz.prog 39 2 := RowT.mk' Tryz.underlying39 rfl (by kernel_rfl)
/-- v is a list of pairs of numbers. -/
def PSrc (w : World) (g o : Nat) (l : List (Int × Int)) : Prop := ∀ i x, l[i]? = some x → w.rangeAt g (o + i * 2) [.int .i64 (x.1), .int .i64 (x.2)]
def PS (w : World) (v : Value) (l : List (Int × Int)) : Prop :=
  ∃ a cap, v = .slice a l.length cap ∧ l.length ≤ cap ∧ cap ≤ maxLen ∧ (l ≠ [] → ∃ g off, a = some ⟨g, off, none⟩ ∧ g < w.heap.size ∧ PSrc w g off l)
theorem PS.form {w : World} {v : Value} {l : List (Int × Int)} (h : PS w v l) : ∃ a c, v = .slice a l.length c := by
  obtain ⟨a, c, e, _⟩ := h
  exact ⟨a, c, e⟩
theorem PS.small {w : World} {v : Value} {l : List (Int × Int)} (h : PS w v l) : l.length ≤ 9223372036854775807 := by
  obtain ⟨a, c, e, h1, h2, _⟩ := h
  unfold maxLen at h2
  omega
theorem PS.at {w : World} {a : Option Addr} {c : Nat} {l : List (Int × Int)} (h : PS w (.slice a l.length c) l) (i : Nat) (x : Int × Int) (hi : l[i]? = some x) :
    ∃ g off, a = some ⟨g, off, none⟩ ∧ g < w.heap.size ∧ w.rangeAt g (off + i * 2) [.int .i64 (x.1), .int .i64 (x.2)] := by
  obtain ⟨a', c', e, h1, h2, h4⟩ := h
  injection e with e _ _
  subst e
  obtain ⟨g, off, e, hg, hs⟩ := h4 (by intro e; subst e; simp at hi)
  exact ⟨g, off, e, hg, hs i x hi⟩
theorem ps_val {W : World} {v : Value} (h : Sh.Val W (.slice 2 (.pair (.int .i64) (.pair (.int .i64) .unit))) v) : ∃ l : List (Int × Int), PS W v l := by
  rcases (show _ ∨ _ from h) with h | ⟨a, len, cap, hv, hlc, hcm, hel⟩
  · obtain rfl : v = .slice none 0 0 := by simpa using h
    exact ⟨[], none, 0, rfl, Nat.le_refl _, by unfold maxLen; omega, fun h => absurd rfl h⟩
  · obtain rfl : v = .slice (some a) len cap := by simpa using hv
    rcases Nat.eq_zero_or_pos len with h0 | hpos
    · subst h0
      exact ⟨[], some a, cap, rfl, hlc, hcm, fun h => absurd rfl h⟩
    · obtain ⟨hs, hc⟩ := slice_cells (by decide) hpos hel
      have hf : ∀ i, ∃ x : Int × Int, i < len → W.cell? ⟨a.block, a.off + i * 2, none⟩ = some (.int .i64 (x.1)) ∧ W.cell? ⟨a.block, a.off + i * 2 + 1, none⟩ = some (.int .i64 (x.2)) := by
        intro i
        by_cases hi : i < len
        · obtain ⟨cs, ⟨x, y, rfl, ⟨s, rfl, _⟩, z, u, rfl, ⟨n, rfl, _⟩, hu⟩, _, hj⟩ := hc i hi
          have h0 := hj 0 (by decide)
          have h1 := hj 1 (by decide)
          refine ⟨(s, n), fun _ => ⟨?_, ?_⟩⟩
          · simpa using h0
          · simpa using h1
        · exact ⟨(0, 0), fun h => absurd h hi⟩
      obtain ⟨f, hf⟩ := Classical.axiomOfChoice hf
      obtain ⟨b, off, sp⟩ := a
      simp only at hs
      subst hs
      refine ⟨(List.range len).map f, some ⟨b, off, none⟩, cap, by simp, by simpa using hlc, hcm, fun _ => ⟨b, off, rfl, cell_lt (hf 0 hpos).1, fun i x hi => ?_⟩⟩
      have hi' : i < len := by have := (List.getElem?_eq_some_iff.1 hi).1; simpa using this
      have hx : x = f i := by
        rw [List.getElem?_map, List.getElem?_range hi'] at hi
        simpa using hi.symm
      subst hx
      obtain ⟨h0, h1⟩ := hf i hi'
      intro j u hj
      rcases (show j = 0 ∨ j = 1 by have := (List.getElem?_eq_some_iff.1 hj).1; simp at this; omega) with rfl | rfl
      · simp at hj; subst hj; exact h0
      · simp at hj; subst hj; exact h1
theorem wf_i64 {k : Int} (h : (Lit.int .i64 k).wf = true) : -9223372036854775808 ≤ k ∧ k ≤ 9223372036854775807 := by
  have h1 : IntKind.i64.min = -9223372036854775808 := by decide
  have h2 : IntKind.i64.max = 9223372036854775807 := by decide
  simpa only [Lit.wf, Bool.and_eq_true, decide_eq_true_eq, h1, h2] using h
theorem two_valT {W : World} {v : Value} (h : Sh.Val W (.pair (.int .i64) (.pair (.int .i64) .unit)) v) : ∃ x y : Int, v = .agg #[.int .i64 (x), .int .i64 (y)] ∧ (-9223372036854775808 ≤ x ∧ x ≤ 9223372036854775807) ∧ (-9223372036854775808 ≤ y ∧ y ≤ 9223372036854775807) := by
  obtain ⟨c0, rfl, _, _, rfl, ⟨k, rfl, hk⟩, _, y, rfl, ⟨k2, rfl, hk2⟩, hu⟩ := h
  obtain rfl : y = [] := hu
  exact ⟨k, k2, rfl, wf_i64 hk, wf_i64 hk2⟩
theorem int_valT {W : World} {v : Value} (h : Sh.Val W (.int .i64) v) : ∃ x : Int, v = .int .i64 (x) ∧ -9223372036854775808 ≤ x ∧ x ≤ 9223372036854775807 := by
  obtain ⟨k, hk, hw⟩ := h
  obtain rfl : v = .int .i64 (k) := by simpa using hk
  exact ⟨k, rfl, wf_i64 hw⟩
theorem topen_range (p : Value) (span : Int) (h0 : span < 1 ∨ 1099511627776 < span) (w : World) :
    Calls Tryz.prog 18 #[p, .int .i64 (span)] w fun e w' => e = .returned (.tuple #[.pointer none, .int .i64 (1)]) ∧ w' = w := by
  by_cases h1 : span < 1
  · have d0 : decide (span < 1) = true := by simpa using h1
    clear h0 h1
    go_enter Tryz.func18, Tryz.ntmps18
    go_wp2_with fail
    all_goals (go_ret2; exact ⟨rfl, rfl⟩)
  · have d0 : decide (span < 1) = false := by simpa using h1
    have d1 : decide (1099511627776 < span) = true := by simp; omega
    clear h0 h1
    go_enter Tryz.func18, Tryz.ntmps18
    go_wp2_with fail
    all_goals (go_ret2; exact ⟨rfl, rfl⟩)
end Go.Proofs.YthgjdaomcpinaaaGreatDoor

/- A number from 0 on, below n: the walk of Below. -/
set_option linter.unusedSimpArgs false
set_option linter.unusedVariables false
namespace Go.Proofs.YthgjdaomcpinaaaGreatDoor
open Go.RowKit

theorem tmod_small (x n : Int) (h : 0 < n) : -n < x.tmod n ∧ x.tmod n < n := by
  rw [Int.tmod_eq_emod]
  have h1 := Int.emod_nonneg x (Int.ne_of_gt h)
  have h2 := Int.emod_lt_of_pos x h
  split <;> omega
theorem tmod_twice (x n : Int) (h : 0 < n) : (x.tmod n + n).tmod n = x % n := by
  have hs := tmod_small x n h
  rw [Int.tmod_eq_emod_of_nonneg (by omega), Int.add_emod_right, Int.tmod_eq_emod]
  split
  · simp
  · rw [show (x % n - (n.natAbs : Int)) = x % n + n * (-1) from by omega, Int.add_mul_emod_self_left, Int.emod_emod]
/-- x % n as a number of ours. -/
def modN (x : Int) (n : Nat) : Nat := (x % (n : Int)).toNat
theorem modN_eq (x : Int) (n : Nat) (h : 0 < n) : ((modN x n : Nat) : Int) = x % (n : Int) := by
  unfold modN
  rw [Int.toNat_of_nonneg (Int.emod_nonneg x (by omega))]
theorem modN_lt (x : Int) (n : Nat) (h : 0 < n) : modN x n < n := by
  have := modN_eq x n h
  have h2 := Int.emod_lt_of_pos x (show (0 : Int) < (n : Int) from by omega)
  omega
set_option maxRecDepth 100000 in
theorem below_any (x : Int) (n : Nat) (h0 : 0 < n) (hn : n ≤ 1000000000) (w : World) :
    Calls Tryz.prog 20 #[.int .i64 (x), .int .i64 ((n : Int))] w fun e w' => e = .returned (.int .i64 ((modN x n : Int))) ∧ w' = w := by
  have h1 := tmod_small x n (by omega)
  have h2 := tmod_twice x n (by omega)
  rw [← modN_eq x n h0] at h2
  have z : ((n : Int) == 0) = false := by simp; omega
  have z2 : (n : Int) ≠ 0 := by omega
  have w1 : IntKind.i64.wrap (x.tmod n + n) = x.tmod n + n := by rw [IntKind.wrap_i64]; omega
  have hm := modN_lt x n h0
  have w2 : IntKind.i64.wrap (x.tmod n) = x.tmod n := by rw [IntKind.wrap_i64]; omega
  have w3 : IntKind.i64.wrap ((modN x n : Nat) : Int) = ((modN x n : Nat) : Int) := by rw [IntKind.wrap_i64]; omega
  go_enter Tryz.func20, Tryz.ntmps20
  go_wp2_with fail
  all_goals (go_ret; exact ⟨by simp [w1, w2, w3, h2], rfl⟩)
end Go.Proofs.YthgjdaomcpinaaaGreatDoor
