/- Reached, Reach, Keep. -/
import Derived.Test.YtbnjhfkmdejeaaaDoorMg13
import Derived.Test.YtbnjhfkmdejeaaaDoorMj5
set_option linter.unnecessarySimpa false

/- The walk of reached. -/
set_option linter.unusedSimpArgs false
set_option linter.unusedVariables false
namespace Go.Proofs.YtbnjhfkmdejeaaaDoor
open Go.RowKit Go.WideMaps Go.Maps Go.Sort Go.Shelf Pl

theorem cloneS_row (base : Nat) (v : Value) (L : List Bs) (w : World) (h : SRow w base v L) (hL : L.length ≤ 1000000) :
    Calls Tryd.prog 84 #[v] w fun e w' => ∃ v', e = .returned v' ∧ SRow w' w.heap.size v' L ∧ Below w.heap.size w w' := by
  rcases h.cells with ⟨rfl, rfl⟩ | ⟨g, cap, rfl, h1, h2, h3, h4, h5, h6⟩
  · refine (AnyE.slices_Clone_nil laysCloneS 0 0 w).mono ?_
    rintro e w' ⟨rfl, rfl⟩
    exact ⟨_, rfl, SRow.nil _ _, Below.refl _ _⟩
  · obtain ⟨i0, hi, hz0, hz1, hz2⟩ := info_parts infoStr
    refine (AnyE.slices_Clone laysCloneS i0 _ 1 16 hi hz0 hz1 hz2 rfl (by decide) Tryd.sizeOf9 g 0 L.length cap (sv L) w (by rw [sv_len]; omega) (by unfold maxLen; omega) (by omega) (fun j u hj => ?_) (sone L)).mono ?_
    · have hj2 : j < L.length := by
        have := (List.getElem?_eq_some_iff.1 hj).1
        rw [sv_len] at this; exact this
      rw [Nat.zero_add, h5 j hj2]
      rw [← hj]
      simp [sv, List.getD, List.getElem?_eq_getElem hj2]
    · rintro e w' ⟨v', rfl, hr, _, hb⟩
      exact ⟨v', rfl, hr, hb⟩
/-- A set of texts as a map of ones. -/
structure InD (D : DataW Unit) (I : List Bs) : Prop where
  has : ∀ k : Bs, Maps.has D (.string k) = decide (k ∈ I)
  val : ∀ k : Bs, D.atKey (.string k) (.lit (.int .i64 0)) = .lit (.int .i64 (if k ∈ I then 1 else 0))
  size : Maps.size D = I.length
theorem InD.start : InD (.map []) [] := ⟨fun k => (by rw [has_eq]; simp), fun k => (by rw [atKey_of_not_has (by rw [has_eq]; rfl)]; simp), rfl⟩
theorem InD.put {D : DataW Unit} {I : List Bs} (h : InD D I) (hD : Tidy D) (s : Bs) (hn : s ∉ I) : InD (D.put (.string s) (.lit (.int .i64 1))) (I ++ [s]) := by
  refine ⟨fun k => ?_, fun k => ?_, ?_⟩
  · by_cases e : k = s
    · subst e
      rw [has_put_same hD.isMap (isKeyS k)]
      simp
    · rw [has_put_other (by intro h; injection h with h; exact e h), h.has, decide_eq_decide]
      simp [e]
  · by_cases e : k = s
    · subst e
      rw [atKey_put_same hD.isMap (isKeyS k)]
      simp
    · rw [atKey_put_other (by intro h; injection h with h; exact e h), h.val]
      simp [e]
  · rw [size_put hD, h.has, if_neg (by simpa using hn), h.size, List.length_append]
    rfl
/-- How many a map has. -/
def msize (w : World) (b : Nat) : Nat := match w.heap[b]? with
  | some (.map es _) => es.size
  | _ => 0
theorem msize_of {H : Type} {w : World} {R : Value → Option (DataW H × List MemPlace)} {b n : Nat} {D : DataW H} (h : w.ownsMap Tryd.prog 9 R b n D) : msize w b = Maps.size D := by
  obtain ⟨es, c, h1, _, _, rfl⟩ := h
  unfold msize
  rw [h1]
  simp [Maps.size, length_sorted]
theorem SRow.dropLast {w : World} {base g n cap : Nat} {L : List Bs} {x : Bs} (h : SRow w base (.slice (some ⟨g, 0, none⟩) n cap) (L ++ [x])) : SRow w base (.slice (some ⟨g, 0, none⟩) L.length cap) L := by
  have hn : n = L.length + 1 := by
    obtain ⟨a, c, e⟩ := h.form
    injection e with _ e _
    rw [e, List.length_append]
    rfl
  subst hn
  rcases h.2 with ⟨e, _⟩ | ⟨g', cap', cur, e, h1, h2, h3, h4, h5, h6⟩
  · cases e
  · injection e with e1 _ e2
    injection e1 with e1
    injection e1 with e1 _ _
    subst e1 e2
    rw [List.length_append] at h3 h6
    refine ⟨by rw [sv_len, Nat.mul_one], .inr ⟨g, cap, cur, rfl, h1, h2, by simp at h3; omega, h4, h5, ?_⟩⟩
    have := congrArg (List.take L.length) h6
    rw [List.take_take] at this
    simp only [List.length_cons, List.length_nil, Nat.mul_one] at this ⊢
    rw [Nat.min_eq_left (by omega)] at this
    rw [this]
    simp [sv]
set_option maxRecDepth 100000 in
set_option maxHeartbeats 4000000 in
theorem reached_any (base base2 p b : Nat) (T : List Ent) (hsh : ShortE T) (hT : T.length ≤ 1000) (u : Value) (S : List Bs) (hSn : S.length ≤ 100000) (hSl : ∀ x ∈ S, x.length ≤ 1000) (w : World) (h : Sto w base p b T) (hu : SRow w base2 u S) :
    Calls Tryd.prog 66 #[.pointer (some ⟨p, 0, none⟩), u] w fun e w' => ∃ (q : Nat) (I : List Bs) (D : DataW Unit), e = .returned (.map (some q)) ∧ w.heap.size ≤ q ∧ w'.ownsMap Tryd.prog 9 (plainElem Tryd.prog 3) q I.length D ∧ InD D I ∧ I.Nodup ∧ (∀ s, s ∈ I ↔ Rch T S s) ∧ (∀ x ∈ I, x ∈ keysE T) ∧ Below w.heap.size w w' := by
  have hmm := @run_makeMap Tryd.prog
  have hown0 : (w.alloc (.map #[] 0)).ownsMap (H := Unit) Tryd.prog 9 (plainElem Tryd.prog 3) w.heap.size 0 (.map []) := World.ownsMap_made _ _ _ _
  have hb0 : Below w.heap.size w (w.alloc (.map #[] 0)) := (Below.refl _ _).alloc (Nat.le_refl _) _
  have hcl := cloneS_row base2 u S (w.alloc (.map #[] 0)) (hu.keep hb0) (by omega)
  have HS := Lib.hid h
  have HSL := Lib.hid hSl
  have HSH := Lib.hid hsh
  clear h hu hSl hsh
  go_enter Tryd.func66, Tryd.ntmps66
  go_wp2_with fail
  refine hcl.mono ?_
  rintro e w1 ⟨v1, rfl, hr1, hb⟩
  have hsz : (w.alloc (.map #[] 0)).heap.size = w.heap.size + 1 := by simp
  rw [hsz] at hr1 hb
  have hown1 := ownsMap_at hown0 (hb.block w.heap.size (by omega))
  have hb1 := hb0.trans (hb.mono (by omega))
  have hs1 : w.heap.size + 1 ≤ w1.heap.size := by have := hb.size; rw [hsz] at this; exact this
  clear hb hb0 hown0 hcl hsz hmm
  obtain ⟨q, hq⟩ : ∃ q, q = w.heap.size := ⟨_, rfl⟩
  rw [← hq] at hr1 hown1 hs1 ⊢
  have hqw : w.heap.size ≤ q := by omega
  clear hq
  go_wp2_with fail
  go_loopw [6] (fun s6 wr => ∃ (I Wt : List Bs) (D : DataW Unit), SRow wr (q + 1) s6 Wt ∧ wr.ownsMap Tryd.prog 9 (plainElem Tryd.prog 3) q I.length D ∧ InD D I ∧ Hid (RInv T S I Wt) ∧ Hid (∀ x ∈ Wt, x.length ≤ 1000) ∧ Wt.length ≤ S.length + 16 * I.length ∧ Below w.heap.size w wr ∧ q + 1 ≤ wr.heap.size) (fun s6 wr => 17 * (T.length - msize wr q) + lenS s6)
  case atStart => exact ⟨[], S, _, hr1, hown1, InD.start, Lib.hid (RInv.start T S), HSL, by omega, hb1, hs1⟩
  case round =>
    obtain ⟨I, Wt, D, hr, hown, hI, HR, HW, hWl, hbr, hsr⟩ := hrel
    clear hr1 hown1 hb1 hs1
    have hIl := HR.out.len
    have hS := HS.out.keep hbr
    obtain ⟨b1, b2, b3⟩ := id hS.blk
    rcases List.eq_nil_or_concat Wt with h0 | ⟨W', x, hWx⟩
    · subst h0
      obtain ⟨wa, wc, rfl⟩ := hr.form
      go_wp2_with fail
      all_goals (go_ret; exact ⟨q, I, D, rfl, hqw, hown, hI, HR.out.nd, HR.out.done, HR.out.keys, hbr⟩)
    · rw [List.concat_eq_append] at hWx
      subst hWx
      rcases hr.cells with ⟨_, e⟩ | ⟨g, cap, rfl, g1, g2, g3, g4, g5, g6⟩
      · simp at e
      have hlen : (W' ++ [x]).length = W'.length + 1 := by simp
      have hr' : SRow wr (q + 1) (.slice (some ⟨g, 0, none⟩) W'.length cap) W' := SRow.dropLast hr
      have q0 := g5 W'.length (by rw [hlen]; omega)
      rw [show (W' ++ [x]).getD W'.length [] = x from by simp] at q0
      rw [hlen] at g3 hWl ⊢
      have hx1 : x.length ≤ 1000 := HW.out x (by simp)
      have HW' : Hid (∀ y ∈ W', y.length ≤ 1000) := Lib.hid (fun y hy => HW.out y (by simp [hy]))
      have hxm : x.length ≤ maxLen := by unfold maxLen; omega
      obtain ⟨v, hrun, _, hv2⟩ := hS.look x hxm
      obtain ⟨k, hrunI, hat, _⟩ := hown.lookup_int keyedS Tryd.underlying70 Tryd.underlying3 (zeroI _) (keyS x hxm)
      rw [hI.val] at hat
      have hk : k = if x ∈ I then 1 else 0 := by
        injection hat with hat
        injection hat with _ hat
        exact hat.symm
      clear hat g5 g6 hr
      have hml : msize wr q = I.length := by rw [msize_of hown, hI.size]
      have i0 : (W'.length : Int) + 1 - 1 = (W'.length : Int) := by omega
      have hwl : W'.length ≤ 9223372036854775000 := by unfold maxLen at g4; omega
      have i1 : IntKind.i64.wrap (W'.length : Int) = (W'.length : Int) := by rw [IntKind.wrap_i64]; omega
      have i2 : (W'.length : Int) ≤ (cap : Int) := by omega
      have i3 : (0 : Int) ≤ (W'.length : Int) ∧ (W'.length : Int) < (W'.length : Int) + 1 := by omega
      have i4 : (0 : Int) < (W'.length : Int) + 1 := by omega
      by_cases hin : x ∈ keysE T
      case neg =>
        rw [show decide (x ∈ keysE T) = false from by simpa using hin] at hrun
        obtain rfl := hv2 hin
        clear hv2 hrunI hk
        go_wp2_with fail
        exact ⟨⟨I, W', D, hr', hown, hI, Lib.hid (HR.out.skip (.inl hin)), HW', by omega, hbr, hsr⟩, by simp [lenS]⟩
      case pos =>
      rw [show decide (x ∈ keysE T) = true from by simpa using hin] at hrun
      clear hv2
      by_cases hI2 : x ∈ I
      case pos =>
        rw [if_pos hI2] at hk
        subst hk
        go_wp2_with fail
        exact ⟨⟨I, W', D, hr', hown, hI, Lib.hid (HR.out.skip (.inr hI2)), HW', by omega, hbr, hsr⟩, by simp [lenS]⟩
      case neg =>
      rw [if_neg hI2] at hk
      subst hk
      have htd := hown.tidy keyedS
      obtain ⟨w2, hrun2, hown2, hg2⟩ := hown.update keyedS Tryd.underlying70 (by unfold maxLen; omega) (keyS x hxm) (show plainElem Tryd.prog 3 (.int .i64 (1)) = some (.lit (.int .i64 1), []) from plainElem_int Tryd.underlying3 (by decide))
      have hI3 := hI.put htd x hI2
      have hb2 : Below w.heap.size w w2 := hbr.grown hg2 hbr.size (fun j hj => by cases hj; exact hqw)
      have hr2 : SRow w2 (q + 1) (.slice (some ⟨g, 0, none⟩) W'.length cap) W' := hr'.grown hg2 (fun k hk e => by have := hr'.own k hk; injection e with e; omega)
      have hs2 := Nat.le_trans hsr hg2.size
      have hR2 := Lib.hid (HR.out.take hin hI2)
      have hn2 := snode_any base p b T HSH.out x hxm w2 (HS.out.keep hb2)
      have hkd : kidsT T x = if (nodeT T x).2 = 0 then kidsF (nodeT T x).1.kid else [] := rfl
      have hk16 := kids_le T x
      have hksh := kids_short T x
      generalize nodeT T x = nt at *
      obtain ⟨⟨kd, pa, va, kk⟩, code⟩ := nt
      simp only at hn2 hkd
      have HKS : Hid (∀ y ∈ kidsT T x, y.length ≤ 32) := Lib.hid hksh
      have HK16 := Lib.hid hk16
      have HKD := Lib.hid hkd
      clear hksh hk16 hkd hr' hown hg2 hbr hsr hI htd
      generalize kidsT T x = ks at *
      have hw1 : IntKind.i64.wrap (0 + 1) = 1 := by rw [IntKind.wrap_i64]; omega
      go_wp2_with fail
      refine hn2.mono ?_
      rintro e w3 ⟨rfl, hb⟩
      have hb3 := hb2.trans (hb.mono hb2.size)
      have hr3 := hr2.keep hb
      have hown3 := ownsMap_at hown2 (hb.block q (by omega))
      have hs3 := Nat.le_trans hs2 hb.size
      clear hn2 hb hb2 hr2 hown2 hs2 hrun hrunI hrun2 b1 b2 b3
      by_cases hc : code = 0
      case pos =>
        subst hc
        have hks := HKD.out
        rw [if_pos rfl] at hks
        have hkc := fun W => kids_any kd pa va kk W
        rw [← hks] at hkc
        clear hks
        go_wp2_with (first | (refine wpList_node rfl (.tmp 10) rfl rfl N4 ?_) | (refine wpList_nodeStore rfl rfl (.tmp 10) (.tmp 54) rfl rfl (kind := kd) (path := pa) (val := va) (kid := kk) rfl (k2 := 0) (p2 := []) (v2 := []) (kid2 := noK) (Blk.new' (by simp)) ?_; intro w4 N4 m4))
        refine (hkc _).mono ?_
        rintro e w5 ⟨xa, xc, rfl, hk5, hb5⟩
        have hb34 : Below w3.heap.size w3 w4 := Below.mod (Below.allocS (Below.refl _ _) _) m4 (by simp) (by simp)
        have hb4 := hb3.trans (hb34.mono hb3.size)
        have hr4 := hr3.keep hb34
        have hown4 := ownsMap_at hown3 (hb34.block q (by omega))
        have hs4 := Nat.le_trans hs3 hb34.size
        clear hb34 m4 hb3 hr3 hown3 hs3
        have hb5' := hb4.trans (hb5.mono hb4.size)
        have hr5 := hr4.keep hb5
        have hown5 := ownsMap_at hown4 (hb5.block q (by omega))
        have hs5 := Nat.le_trans hs4 hb5.size
        have hk5s := hk5.ss
        have hkl := HK16.out
        clear hb5 hb4 hr4 hown4 hs4 hk5 N4
        go_wp2_with (refine wpList_appSS rfl (.tmp 58) (.tmp 60) rfl (q + 1) (.slice (some ⟨g, 0, none⟩) W'.length cap) W' rfl hr5 _ ks rfl hk5s (by omega) hs5 ?_; intro v6 w6 hr6 hb6)
        have hown6 := ownsMap_at hown5 (hb6.block q (by omega))
        have hf6 := hr6.form
        obtain ⟨a6, c6, rfl⟩ := hf6
        have hm6 : msize w6 q = I.length + 1 := by rw [msize_of hown6, hI3.size]; simp
        have hle := hR2.out.len
        simp only [List.length_append, List.length_cons, List.length_nil] at hle
        refine ⟨⟨I ++ [x], W' ++ ks, _, hr6, ?_, hI3, hR2, Lib.hid (fun y hy => ?_), ?_, hb5'.trans (hb6.mono (by omega)), Nat.le_trans hs5 hb6.size⟩, ?_⟩
        · rw [List.length_append]; exact hown6
        · rcases List.mem_append.1 hy with hy | hy
          · exact HW'.out y hy
          · have := HKS.out y hy; omega
        · rw [List.length_append, List.length_append, List.length_cons, List.length_nil]; omega
        · rw [hm6, hml]
          simp only [lenS, List.length_append]
          omega
      case neg =>
        have ez : (code == 0) = false := by simpa using hc
        have hks := HKD.out
        rw [if_neg hc] at hks
        go_wp2_with (refine wpList_nodeStore rfl rfl (.tmp 10) (.tmp 54) rfl rfl (kind := kd) (path := pa) (val := va) (kid := kk) rfl (k2 := 0) (p2 := []) (v2 := []) (kid2 := noK) (Blk.new' (by simp)) ?_; intro w4 N4 m4)
        have hb34 : Below w3.heap.size w3 w4 := Below.mod (Below.allocS (Below.refl _ _) _) m4 (by simp) (by simp)
        have hb4 := hb3.trans (hb34.mono hb3.size)
        have hr4 := hr3.keep hb34
        have hown4 := ownsMap_at hown3 (hb34.block q (by omega))
        have hs4 := Nat.le_trans hs3 hb34.size
        clear hb34 m4 hb3 hr3 hown3 hs3
        have hm6 : msize w4 q = I.length + 1 := by rw [msize_of hown4, hI3.size]; simp
        have hle := hR2.out.len
        simp only [List.length_append, List.length_cons, List.length_nil] at hle
        refine ⟨⟨I ++ [x], W', _, hr4, ?_, hI3, ?_, HW', ?_, hb4, hs4⟩, ?_⟩
        · rw [List.length_append]; exact hown4
        · have := hR2.out
          rw [hks, List.append_nil] at this
          exact Lib.hid this
        · rw [List.length_append, List.length_cons, List.length_nil]; omega
        · rw [hm6, hml]
          simp only [lenS]
          omega
end Go.Proofs.YtbnjhfkmdejeaaaDoor

/- Walks of the store: Reach, Fork, Keep. -/
set_option linter.unusedSimpArgs false
set_option linter.unusedVariables false
namespace Go.Proofs.YtbnjhfkmdejeaaaDoor
open Go.RowKit Go.WideMaps Go.Maps Go.Sort Go.Shelf Pl

theorem sort_lt {l : List Bs} (h : l.Nodup) : (sortB l).Pairwise (fun x y => x < y) := by
  have h1 : (sortB l).Pairwise (fun x y => x ≤ y) := by
    have := List.pairwise_mergeSort (le := fun x y : Bs => decide (x ≤ y)) (fun x y z h k => by simp only [decide_eq_true_eq] at *; exact List.le_trans h k) (fun x y => by simp only [Bool.or_eq_true, decide_eq_true_eq]; exact List.le_total x y) l
    exact this.imp (fun h => by simpa using h)
  have h2 : (sortB l).Nodup := (sortB_perm l).nodup_iff.2 h
  refine (h1.and h2).imp (fun {x y} ⟨h, hn⟩ => ?_)
  rcases Classical.em (x < y) with hl | hl
  · exact hl
  · exact absurd (List.le_antisymm h (List.not_lt.1 hl)) hn
/-- These are just what is reached, in order. -/
def IsR (T : List Ent) (S L : List Bs) : Prop := L.Pairwise (fun x y => x < y) ∧ ∀ s, s ∈ L ↔ Rch T S s
theorem IsR.uniq {T : List Ent} {S L M : List Bs} (h : IsR T S L) (k : IsR T S M) : L = M :=
  sorted_uniq L M h.1 k.1 (fun x => (h.2 x).trans (k.2 x).symm)
set_option maxRecDepth 100000 in
set_option maxHeartbeats 1000000 in
theorem sreach_any (base base2 p b : Nat) (T : List Ent) (hsh : ShortE T) (hT : T.length ≤ 1000) (u : Value) (S : List Bs) (hSn : S.length ≤ 100000) (hSl : ∀ x ∈ S, x.length ≤ 1000) (w : World) (h : Sto w base p b T) (hu : SRow w base2 u S) :
    Calls Tryd.prog 36 #[.pointer (some ⟨p, 0, none⟩), u] w fun e w' => ∃ (v : Value) (L : List Bs), e = .returned v ∧ SRow w' w.heap.size v L ∧ IsR T S L ∧ (∀ x ∈ L, x ∈ keysE T) ∧ L.length ≤ T.length ∧ Below w.heap.size w w' := by
  have hre := reached_any base base2 p b T hsh hT u S hSn hSl w h hu
  clear h hu
  go_enter Tryd.func36, Tryd.ntmps36
  go_wp2_with fail
  refine hre.mono ?_
  rintro e w1 ⟨q, I, D, rfl, hq, hown, hI, hnd, hR, hk, hb⟩
  have hpm := keys_perm hown hnd hI.has
  have hle : I.length ≤ T.length := by
    have := nodup_len I (keysE T) hnd hk
    unfold keysE at this
    rwa [List.length_map] at this
  have hso := sortedI_any q _ D _ w1 hown (by rw [hI.size]; omega)
  rw [show (strKeys D).mergeSort (fun x y => decide (x ≤ y)) = sortB I from (sortB_of hpm).symm] at hso
  clear hre
  go_wp2_with fail
  refine (keysI_any (some q) _).mono ?_
  rintro e w2 ⟨rfl, rfl⟩
  go_wp2_with fail
  refine hso.mono ?_
  rintro e w3 ⟨v, rfl, hr, hb3⟩
  go_wp2_with fail
  go_ret
  have hmem : ∀ s, s ∈ sortB I ↔ s ∈ I := fun s => (sortB_perm I).mem_iff
  refine ⟨v, sortB I, rfl, SRow.low hr hb.size, ⟨sort_lt hnd, fun s => (hmem s).trans (hR s)⟩, fun x hx => hk x ((hmem x).1 hx), by rw [(sortB_perm I).length_eq]; exact hle, ?_⟩
  exact hb.trans (((Below.allocS (Below.refl _ _) _).trans hb3).mono hb.size)
set_option maxRecDepth 100000 in
set_option maxHeartbeats 1000000 in
theorem sfork_any (base p b : Nat) (T : List Ent) (w : World) (h : Sto w base p b T) :
    Calls Tryd.prog 39 #[.pointer (some ⟨p, 0, none⟩)] w fun e w' => ∃ p2 b2, e = .returned (.pointer (some ⟨p2, 0, none⟩)) ∧ Sto w' base p2 b2 T ∧ w.heap.size ≤ p2 ∧ w.heap.size ≤ b2 ∧ Below w.heap.size w w' := by
  obtain ⟨D, ho, hD⟩ := h.own
  have hc := AnyW.maps_Clone_owns cloneB _ hR b _ D w ho
  obtain ⟨b1, b2, b3⟩ := id h.blk
  have hbb := h.hb
  have hbl := h.blt
  clear h
  go_enter Tryd.func39, Tryd.ntmps39
  go_wp2_with fail
  refine hc.mono ?_
  rintro e w1 ⟨rfl, hown, _, hb⟩
  go_wp2_with fail
  go_ret
  refine ⟨w1.heap.size, w.heap.size, rfl, ⟨by have := hb.size; omega, by omega, ?_, by simp, D, hown.alloc _, ?_⟩, hb.size, Nat.le_refl _, Below.allocS hb _⟩
  · simpa using heap_alloc_new w1 (.cells #[.map (some w.heap.size)] 111)
  · refine (hD.kept hb.size (fun g c fz hg => hb.block g (stok_lt (.inr (.inl ⟨c, fz, hg⟩))))).kept (by simp) (fun g c fz hg => ?_)
    exact Below.heap_alloc _ _ _ (stok_lt (.inr (.inl ⟨c, fz, hg⟩)))
end Go.Proofs.YtbnjhfkmdejeaaaDoor

/- The walk of Keep. -/
set_option linter.unusedSimpArgs false
set_option linter.unusedVariables false
namespace Go.Proofs.YtbnjhfkmdejeaaaDoor
open Go.RowKit Go.WideMaps Go.Maps Go.Sort Go.Shelf Pl

theorem own_tight {H : Type} {w : World} {R : Value → Option (DataW H × List MemPlace)} {b n : Nat} {D : DataW H} (h : w.ownsMap Tryd.prog 9 R b n D) : w.ownsMap Tryd.prog 9 R b (Maps.size D) D := by
  obtain ⟨es, c, h1, h2, h3, rfl⟩ := h
  exact ⟨es, c, h1, h2, by simp [Maps.size, length_sorted], rfl⟩
/-- Without a sum. -/
def dropT (T : List Ent) (x : Bs) : List Ent := T.filter (fun e => !(e.1 == x))
theorem drop_keys {T : List Ent} {x k : Bs} : k ∈ keysE (dropT T x) ↔ k ∈ keysE T ∧ k ≠ x := by
  rw [mem_keys, mem_keys]
  unfold dropT
  constructor
  · rintro ⟨t, h⟩
    rw [List.mem_filter] at h
    exact ⟨⟨t, h.1⟩, by simpa using h.2⟩
  · rintro ⟨⟨t, h⟩, hne⟩
    exact ⟨t, List.mem_filter.2 ⟨h, by simpa using hne⟩⟩
theorem drop_out {T : List Ent} {x : Bs} (h : x ∉ keysE T) : dropT T x = T := by
  unfold dropT
  rw [List.filter_eq_self]
  intro e he
  have : e.1 ≠ x := fun e2 => h (by rw [← e2]; exact mem_keys.2 ⟨e.2, he⟩)
  simpa using this
theorem drop_len : ∀ {T : List Ent} {x : Bs}, (keysE T).Nodup → x ∈ keysE T → (dropT T x).length + 1 = T.length
  | [], x, _, h => by cases h
  | e :: r, x, hn, h => by
    unfold keysE at hn
    rw [List.map_cons, List.nodup_cons] at hn
    by_cases he : e.1 = x
    · have h0 := drop_out (T := r) (x := x) (by rw [← he]; exact hn.1)
      unfold dropT at h0 ⊢
      rw [List.filter_cons_of_neg (by simp [he]), h0]
      rfl
    · have hr : x ∈ keysE r := by
        rcases List.mem_cons.1 h with h | h
        · exact absurd h.symm he
        · exact h
      have h0 := drop_len (T := r) (x := x) hn.2 hr
      unfold dropT at h0 ⊢
      rw [List.filter_cons_of_pos (by simp [he])]
      simp only [List.length_cons]
      omega
theorem StoD.del {w : World} {base : Nat} {D : DataW Value} {T : List Ent} (h : StoD w base D T) (hD : Tidy D) {x : Bs} (hx : x ∈ keysE T) : StoD w base (D.del (.string x)) (dropT T x) := by
  refine ⟨fun k => ?_, fun e he => ?_, ?_, ?_⟩
  · by_cases e : k = x
    · subst e
      rw [has_del_same]
      have : k ∉ keysE (dropT T k) := fun h => (drop_keys.1 h).2 rfl
      simp [this]
    · rw [has_del_other (by intro h; injection h with h; exact e h), h.has, decide_eq_decide, drop_keys]
      simp [e]
  · unfold dropT at he
    rw [List.mem_filter] at he
    obtain ⟨v, h1, h2⟩ := h.val e he.1
    have hne : e.1 ≠ x := by simpa using he.2
    exact ⟨v, by rw [atKey_del_other (by intro h; injection h with h; exact hne h)]; exact h1, h2⟩
  · exact List.Nodup.sublist (List.Sublist.map _ List.filter_sublist) h.nodup
  · have h1 := size_del hD (k := .string x)
    rw [h.has, if_pos (by simpa using hx), h.size] at h1
    have h2 := drop_len h.nodup hx
    omega
/-- Only these stay. -/
def keepT (T : List Ent) (I : List Bs) : List Ent := T.filter (fun e => decide (e.1 ∈ I))
/-- Those among l that are not to stay are gone. -/
def goneT (T : List Ent) (I l : List Bs) : List Ent := T.filter (fun e => decide (e.1 ∈ I) || !decide (e.1 ∈ l))
theorem gone_nil (T : List Ent) (I : List Bs) : goneT T I [] = T := by
  unfold goneT
  rw [List.filter_eq_self]
  intro e _
  simp
theorem gone_all (T : List Ent) (I l : List Bs) (h : ∀ k ∈ keysE T, k ∈ l) : goneT T I l = keepT T I := by
  unfold goneT keepT
  refine List.filter_congr (fun e he => ?_)
  have := h e.1 (mem_keys.2 ⟨e.2, he⟩)
  simp [this]
theorem gone_stay (T : List Ent) (I l : List Bs) (x : Bs) (hx : x ∈ I) : goneT T I (l ++ [x]) = goneT T I l := by
  unfold goneT
  refine List.filter_congr (fun e _ => ?_)
  by_cases h : e.1 = x
  · rw [h]; simp [hx]
  · simp [h]
theorem gone_drop (T : List Ent) (I l : List Bs) (x : Bs) (hx : x ∉ I) : goneT T I (l ++ [x]) = dropT (goneT T I l) x := by
  unfold goneT dropT
  rw [List.filter_filter]
  refine List.filter_congr (fun e _ => ?_)
  by_cases h : e.1 = x
  · rw [h]; simp [hx]
  · simp [h]
theorem gone_mem {T : List Ent} {I l : List Bs} {k : Bs} : k ∈ keysE (goneT T I l) ↔ k ∈ keysE T ∧ (k ∈ I ∨ k ∉ l) := by
  rw [mem_keys, mem_keys]
  unfold goneT
  constructor
  · rintro ⟨t, h⟩
    rw [List.mem_filter] at h
    exact ⟨⟨t, h.1⟩, by simpa using h.2⟩
  · rintro ⟨⟨t, h⟩, hne⟩
    exact ⟨t, List.mem_filter.2 ⟨h, by simpa using hne⟩⟩
theorem gone_len (T : List Ent) (I l : List Bs) : (goneT T I l).length ≤ T.length := List.length_filter_le _ _
theorem grown_below2 {w w' : World} {r : Option Nat} (h : Below w.heap.size w w') : w.grownBy w' r := ⟨h.os, h.tape, h.output, h.size, fun k hk _ => h.block k hk⟩
theorem grown_trans2 {w w1 w2 : World} {r : Option Nat} (h : w.grownBy w1 r) (k : w1.grownBy w2 r) : w.grownBy w2 r :=
  ⟨k.os.trans h.os, k.tape.trans h.tape, k.output.trans h.output, Nat.le_trans h.size k.size, fun i hi hne => (k.block i (Nat.lt_of_lt_of_le hi h.size) hne).trans (h.block i hi hne)⟩
theorem Sto.not_p {w : World} {base p b : Nat} {T : List Ent} (h : Sto w base p b T) : p ≠ b := by
  intro e
  subst e
  obtain ⟨D, ⟨es, c, hm, _⟩, _⟩ := h.own
  have := h.cell
  rw [hm] at this
  cases this
theorem Sto.map {w : World} {base p b : Nat} {T : List Ent} (h : Sto w base p b T) : ∃ es c, w.heap[b]? = some (Obj.map es c) := by
  obtain ⟨D, ⟨es, c, hm, _⟩, _⟩ := h.own
  exact ⟨es, c, hm⟩
/-- A sum goes. -/
theorem Sto.drop {w w' : World} {base p b n : Nat} {T : List Ent} {D : DataW Value} {x : Bs} (h : Sto w base p b T) (hD : StoD w base D T) (ht : Tidy D) (hx : x ∈ keysE T) (ho : w'.ownsMap Tryd.prog 9 hR b n (D.del (.string x))) (hg : w.grownBy w' (some b)) : Sto w' base p b (dropT T x) := by
  have hpb := h.not_p
  have hnb : ∀ g c fz, w.heap[g]? = some (Obj.cells c 5 fz) → some g ≠ some b := by
    intro g c fz hg' e
    injection e with e
    subst e
    obtain ⟨es, cl, hm⟩ := h.map
    rw [hm] at hg'
    cases hg'
  have hd := hD.del ht hx
  refine ⟨h.hp, h.hb, (hg.block p h.lt (by simpa using hpb)).trans h.cell, by have := h.lt; have := hg.size; omega, _, ?_, hd.kept hg.size (fun g c fz hg' => hg.block g (stok_lt (.inr (.inl ⟨c, fz, hg'⟩))) (hnb g c fz hg'))⟩
  rw [← hd.size]
  exact own_tight ho
set_option maxRecDepth 100000 in
set_option maxHeartbeats 2000000 in
theorem skeep_any (base base2 p b : Nat) (T : List Ent) (hsh : ShortE T) (hT : T.length ≤ 1000) (u : Value) (S : List Bs) (hSn : S.length ≤ 100000) (hSl : ∀ x ∈ S, x.length ≤ 1000) (hkl : ∀ x ∈ keysE T, x.length ≤ maxLen) (w : World) (h : Sto w base p b T) (hu : SRow w base2 u S) :
    Calls Tryd.prog 40 #[.pointer (some ⟨p, 0, none⟩), u] w fun e w' => ∃ I : List Bs, (∀ s, s ∈ I ↔ Rch T S s) ∧ e = .returned (.int .i64 (((T.length - (keepT T I).length : Nat) : Int))) ∧ Sto w' base p b (keepT T I) ∧ w.grownBy w' (some b) := by
  have hre := reached_any base base2 p b T hsh hT u S hSn hSl w h hu
  have hblt := h.blt
  have HS := Lib.hid h
  have HKL := Lib.hid hkl
  clear h hu hkl
  go_enter Tryd.func40, Tryd.ntmps40
  go_wp2_with fail
  refine hre.mono ?_
  rintro e w1 ⟨q, I, D, rfl, hq, hown, hI, hnd, hR, hk, hb⟩
  have h1 := HS.out.keep hb
  have hsu := ssums_any base p b T hT w1 h1
  have HR := Lib.hid hR
  have hs1 := hb.size
  have hg1 : w.grownBy w1 (some b) := grown_below2 hb
  clear hre hk hR hnd hb
  go_wp2_with fail
  refine hsu.mono ?_
  rintro e w2 ⟨v, rfl, hr2, hb2⟩
  have h2 := h1.keep hb2
  have hown2 := ownsMap_at hown (hb2.block q hown.lt)
  have hg2 : w.grownBy w2 (some b) := grown_trans2 hg1 (grown_below2 hb2)
  have hLk : ∀ k ∈ keysE T, k ∈ sortB (keysE T) := fun k hk => (sortB_perm (keysE T)).mem_iff.2 hk
  have hLs : ∀ k ∈ sortB (keysE T), k ∈ keysE T := fun k hk => (sortB_perm (keysE T)).mem_iff.1 hk
  have hLn : (sortB (keysE T)).Nodup := (sortB_perm (keysE T)).nodup_iff.2 h1.nodup
  have hLl : (sortB (keysE T)).length ≤ 1000 := by rw [(sortB_perm (keysE T)).length_eq]; unfold keysE; rw [List.length_map]; exact hT
  clear hsu h1 hown hg1 hb2
  generalize sortB (keysE T) = L at *
  obtain ⟨va, vc, rfl⟩ := hr2.form
  have HLK := Lib.hid hLk
  have HLS := Lib.hid hLs
  have HLN := Lib.hid hLn
  clear hLk hLs hLn
  go_wp2_with fail
  go_loopw [15, 6, 8] (fun s15 s6 _ wr => ∃ (n gone : Nat), s15 = .int .i64 (n) ∧ s6 = .int .i64 (gone) ∧ n ≤ L.length ∧ Sto wr base p b (goneT T I (L.take n)) ∧ gone + (goneT T I (L.take n)).length = T.length ∧ w2.grownBy wr (some b)) (fun s15 _ _ _ => L.length - (intOf s15).toNat)
  case atStart => exact ⟨0, 0, rfl, rfl, Nat.zero_le _, by rw [List.take_zero, gone_nil]; exact h2, by rw [List.take_zero, gone_nil]; omega, ⟨rfl, rfl, rfl, Nat.le_refl _, fun _ _ _ => rfl⟩⟩
  case round =>
    obtain ⟨n, gone, rfl, rfl, hn, hS, hgo, hgr⟩ := hrel
    clear h2
    obtain ⟨b1, b2, b3⟩ := id hS.blk
    by_cases hlt : n < L.length
    · have d1 : decide ((n : Int) < (L.length : Int)) = true := by simp; omega
      have i0 : 0 ≤ (n : Int) ∧ (n : Int) < (L.length : Int) := by omega
      have hw0 : IntKind.i64.wrap ((n : Int) + 1) = (n : Int) + 1 := by rw [IntKind.wrap_i64]; omega
      have hrr : SRow wr w1.heap.size (.slice va L.length vc) L := hr2.grown hgr (fun k hk e => by have := hr2.own k hk; injection e with e; omega)
      obtain ⟨g, off, rfl, hgl, q0⟩ := hrr.ss.at' n hlt
      have htk := takeS L n hlt
      have hxk : L.getD n [] ∈ keysE T := HLS.out _ (by rw [List.getD_eq_getElem?_getD, List.getElem?_eq_getElem hlt]; exact List.getElem_mem _)
      have hxn : L.getD n [] ∉ L.take n := by
        have := HLN.out
        rw [← List.take_append_drop n L, List.nodup_append] at this
        intro hm
        refine this.2.2 _ hm (L.getD n []) ?_ rfl
        rw [dropS L n hlt]
        simp
      generalize L.getD n [] = x at *
      have hxm := HKL.out x hxk
      have hownr := ownsMap_at hown2 (hgr.block q hown2.lt (fun e => by injection e with e; omega))
      obtain ⟨k, hrunI, hat, _⟩ := hownr.lookup_int keyedS Tryd.underlying70 Tryd.underlying3 (zeroI _) (keyS x hxm)
      rw [hI.val] at hat
      have hkv : k = if x ∈ I then 1 else 0 := by
        injection hat with hat
        injection hat with _ hat
        exact hat.symm
      clear hat hrr hownr
      by_cases hxI : x ∈ I
      · rw [if_pos hxI] at hkv
        subst hkv
        go_wp2_with fail
        refine ⟨⟨n + 1, gone, rfl, rfl, by omega, ?_, ?_, hgr⟩, by simp [intOf]; omega⟩
        · rw [htk, gone_stay _ _ _ _ hxI]; exact hS
        · rw [htk, gone_stay _ _ _ _ hxI]; exact hgo
      · rw [if_neg hxI] at hkv
        subst hkv
        have hxg : x ∈ keysE (goneT T I (L.take n)) := gone_mem.2 ⟨hxk, .inr hxn⟩
        have hdl := drop_len hS.nodup hxg
        obtain ⟨D', ho', hD'⟩ := hS.own
        have htd := ho'.tidy keyedS
        have hglen := gone_len T I (L.take n)
        have hw1 : IntKind.i64.wrap ((gone : Int) + 1) = (gone : Int) + 1 := by rw [IntKind.wrap_i64]; omega
        have HSr := Lib.hid hS
        clear hS
        go_wp2_with (first
          | (at_delete; refine wpList_delete_own _ rfl _ _ 109 9 rfl 89 keyedS Tryd.underlying109 hR b _ D' rfl ho' _ _ rfl (keyS x hxm) ?_; intro w3 ho3 ht3)
          | fail)
        have hg3 := ht3.grown
        have hS3 := HSr.out.drop hD' htd hxg ho3 hg3
        refine ⟨⟨n + 1, gone + 1, rfl, rfl, by omega, ?_, ?_, grown_trans2 hgr hg3⟩, by simp [intOf]; omega⟩
        · rw [htk, gone_drop _ _ _ _ hxI]; exact hS3
        · rw [htk, gone_drop _ _ _ _ hxI]; omega
    · have e : n = L.length := by omega
      subst e
      have d1 : decide ((L.length : Int) < (L.length : Int)) = false := by simp
      rw [List.take_length, gone_all T I L HLK.out] at hS hgo
      go_wp2_with fail
      all_goals (go_ret; exact ⟨I, HR.out, (by rw [show T.length - (keepT T I).length = gone from by omega]; rfl), hS, grown_trans2 hg2 hgr⟩)
end Go.Proofs.YtbnjhfkmdejeaaaDoor
