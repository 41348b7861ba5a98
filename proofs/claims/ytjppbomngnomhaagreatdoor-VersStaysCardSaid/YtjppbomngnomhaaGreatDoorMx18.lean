/- Reached, Keep, MMod, TSave, TypK, LoadS. -/
import Derived.Test.YtjppbomngnomhaaGreatDoorMx17
set_option linter.unnecessarySimpa false
set_option linter.unusedSimpArgs false
set_option linter.unusedVariables false
set_option maxRecDepth 100000
set_option maxHeartbeats 32000000
namespace Go.Proofs.YtjppbomngnomhaaGreatDoor
open Go.RowKit Go.WideMaps Go.Maps Go.Sort Go.Shelf Pl
theorem cloneS_row (base : Nat) (v : Value) (L : List Bs) (w : World) (h : SRow w base v L) (hL : L.length ≤ 1000000) :
  Calls Tryz.prog 60 #[v] w fun e w' => ∃ v', e = .returned v' ∧ SRow w' w.heap.size v' L ∧ Below w.heap.size w w' := by
 rcases h.cells with ⟨rfl, rfl⟩ | ⟨g, cap, rfl, h1, h2, h3, h4, h5, h6⟩
 ·refine (AnyE.slices_Clone_nil laysCloneS 0 0 w).mono ?_
  rintro e w' ⟨rfl, rfl⟩
  exact ⟨_, rfl, SRow.nil _ _, Below.refl _ _⟩
 ·obtain ⟨i0, hi, hz0, hz1, hz2⟩ := info_parts infoStr
  refine (AnyE.slices_Clone laysCloneS i0 _ 1 16 hi hz0 hz1 hz2 rfl (by decide) Tryz.sizeOf9 g 0 L.length cap (sv L) w (by rw [sv_len]; omega) (by unfold maxLen; omega) (by omega) (fun j u hj => ?_) (sone L)).mono ?_
  ·have hj2 : j < L.length := by
    have := (List.getElem?_eq_some_iff.1 hj).1
    rw [sv_len] at this; exact this
   rw [Nat.zero_add, h5 j hj2]
   rw [← hj]
   simp [sv, List.getD, List.getElem?_eq_getElem hj2]
  ·rintro e w' ⟨v', rfl, hr, _, hb⟩
   exact ⟨v', rfl, hr, hb⟩
structure InD (D : DataW Unit) (I : List Bs) : Prop where
 has : ∀ k : Bs, Maps.has D (.string k) = decide (k ∈ I)
 val : ∀ k : Bs, D.atKey (.string k) (.lit (.int .i64 0)) = .lit (.int .i64 (if k ∈ I then 1 else 0))
 size : Maps.size D = I.length
theorem InD.start : InD (.map []) [] := ⟨fun k => (by rw [has_eq]; simp), fun k => (by rw [atKey_of_not_has (by rw [has_eq]; rfl)]; simp), rfl⟩
theorem InD.put {D : DataW Unit} {I : List Bs} (h : InD D I) (hD : Tidy D) (s : Bs) (hn : s ∉ I) : InD (D.put (.string s) (.lit (.int .i64 1))) (I ++ [s]) := by
 refine ⟨fun k => ?_, fun k => ?_, ?_⟩
 ·by_cases e : k = s
  ·subst e
   rw [has_put_same hD.isMap (isKeyS k)]
   simp
  ·rw [has_put_other (by intro h; injection h with h; exact e h), h.has, decide_eq_decide]
   simp [e]
 ·by_cases e : k = s
  ·subst e
   rw [atKey_put_same hD.isMap (isKeyS k)]
   simp
  ·rw [atKey_put_other (by intro h; injection h with h; exact e h), h.val]
   simp [e]
 ·rw [size_put hD, h.has, if_neg (by simpa using hn), h.size, List.length_append]
  rfl
def msize (w : World) (b : Nat) : Nat := match w.heap[b]? with
 | some (.map es _) => es.size
 | _ => 0
theorem msize_of {H : Type} {w : World} {R : Value → Option (DataW H × List MemPlace)} {b n : Nat} {D : DataW H} (h : w.ownsMap Tryz.prog 9 R b n D) : msize w b = Maps.size D := by
 obtain ⟨es, c, h1, _, _, rfl⟩ := h
 unfold msize
 rw [h1]
 simp [Maps.size, length_sorted]
theorem SRow.dropLast {w : World} {base g n cap : Nat} {L : List Bs} {x : Bs} (h : SRow w base (.slice (some ⟨g, 0, none⟩) n cap) (L ++ [x])) : SRow w base (.slice (some ⟨g, 0, none⟩) L.length cap) L := by
 have hn : n = L.length + 1 := by
  obtain ⟨a, c, e⟩ := h.form
  injection e with _ e _
  rw [e, List.length_append]
  rfl
 subst hn
 rcases h.2 with ⟨e, _⟩ | ⟨g', cap', cur, e, h1, h2, h3, h4, h5, h6⟩
 ·cases e
 ·injection e with e1 _ e2
  injection e1 with e1
  injection e1 with e1 _ _
  subst e1 e2
  rw [List.length_append] at h3 h6
  refine ⟨by rw [sv_len, Nat.mul_one], .inr ⟨g, cap, cur, rfl, h1, h2, by simp at h3; omega, h4, h5, ?_⟩⟩
  have := congrArg (List.take L.length) h6
  rw [List.take_take] at this
  simp only [List.length_cons, List.length_nil, Nat.mul_one] at this ⊢
  rw [Nat.min_eq_left (by omega)] at this
  rw [this]
  simp [sv]
theorem reached_anyM (base base2 p b : Nat) (T : List Ent) (hsh : ShortE T) (hT : T.length ≤ 100000) (u : Value) (S : List Bs) (hSn : S.length ≤ 100000) (hSl : ∀ x ∈ S, x.length ≤ maxLen) (w : World) (h : Sto w base p b T) (hu : SRow w base2 u S) :
  Calls Tryz.prog 41 #[.pointer (some ⟨p, 0, none⟩), u] w fun e w' => ∃ (q : Nat) (I : List Bs) (D : DataW Unit), e = .returned (.map (some q)) ∧ w.heap.size ≤ q ∧ w'.ownsMap Tryz.prog 9 (plainElem Tryz.prog 3) q I.length D ∧ InD D I ∧ I.Nodup ∧ (∀ s, s ∈ I ↔ Rch T S s) ∧ (∀ x ∈ I, x ∈ keysE T) ∧ Below w.heap.size w w' := by
 have hmm := @run_makeMap Tryz.prog
 have hown0 : (w.alloc (.map #[] 0)).ownsMap (H := Unit) Tryz.prog 9 (plainElem Tryz.prog 3) w.heap.size 0 (.map []) := World.ownsMap_made _ _ _ _
 have hb0 : Below w.heap.size w (w.alloc (.map #[] 0)) := (Below.refl _ _).alloc (Nat.le_refl _) _
 have hcl := cloneS_row base2 u S (w.alloc (.map #[] 0)) (hu.keep hb0) (by omega)
 have HS := Lib.hid h
 have HSL := Lib.hid hSl
 have HSH := Lib.hid hsh
 clear h hu hSl hsh
 go_enter Tryz.func41, Tryz.ntmps41
 go_wp2_with fail
 refine hcl.mono ?_
 rintro e w1 ⟨v1, rfl, hr1, hb⟩
 have hsz : (w.alloc (.map #[] 0)).heap.size = w.heap.size + 1 := by simp
 rw [hsz] at hr1 hb
 have hown1 := ownsMap_at hown0 (hb.block w.heap.size (by omega))
 have hb1 := hb0.trans (hb.mono (by omega))
 have hs1 : w.heap.size + 1 ≤ w1.heap.size := by have := hb.size; rw [hsz] at this; exact this
 clear hb hb0 hown0 hcl hsz hmm
 obtain ⟨q, hq⟩ : ∃ q, q = w.heap.size := ⟨_, rfl⟩
 rw [← hq] at hr1 hown1 hs1 ⊢
 have hqw : w.heap.size ≤ q := by omega
 clear hq
 go_wp2_with fail
 go_loopw [6] (fun s6 wr => ∃ (I Wt : List Bs) (D : DataW Unit), SRow wr (q + 1) s6 Wt ∧ wr.ownsMap Tryz.prog 9 (plainElem Tryz.prog 3) q I.length D ∧ InD D I ∧ Hid (RInv T S I Wt) ∧ Hid (∀ x ∈ Wt, x.length ≤ maxLen) ∧ Wt.length ≤ S.length + 16 * I.length ∧ Below w.heap.size w wr ∧ q + 1 ≤ wr.heap.size) (fun s6 wr => 17 * (T.length - msize wr q) + lenS s6)
 case atStart => exact ⟨[], S, _, hr1, hown1, InD.start, Lib.hid (RInv.start T S), HSL, by omega, hb1, hs1⟩
 case round =>
  obtain ⟨I, Wt, D, hr, hown, hI, HR, HW, hWl, hbr, hsr⟩ := hrel
  clear hr1 hown1 hb1 hs1
  have hIl := HR.out.len
  have hS := HS.out.keep hbr
  obtain ⟨b1, b2, b3⟩ := id hS.blk
  rcases List.eq_nil_or_concat Wt with h0 | ⟨W', x, hWx⟩
  ·subst h0
   obtain ⟨wa, wc, rfl⟩ := hr.form
   go_wp2_with fail
   all_goals (go_ret; exact ⟨q, I, D, rfl, hqw, hown, hI, HR.out.nd, HR.out.done, HR.out.keys, hbr⟩)
  ·rw [List.concat_eq_append] at hWx
   subst hWx
   rcases hr.cells with ⟨_, e⟩ | ⟨g, cap, rfl, g1, g2, g3, g4, g5, g6⟩
   ·simp at e
   have hlen : (W' ++ [x]).length = W'.length + 1 := by simp
   have hr' : SRow wr (q + 1) (.slice (some ⟨g, 0, none⟩) W'.length cap) W' := SRow.dropLast hr
   have q0 := g5 W'.length (by rw [hlen]; omega)
   rw [show (W' ++ [x]).getD W'.length [] = x from by simp] at q0
   rw [hlen] at g3 hWl ⊢
   have hx1 : x.length ≤ maxLen := HW.out x (by simp)
   have HW' : Hid (∀ y ∈ W', y.length ≤ maxLen) := Lib.hid (fun y hy => HW.out y (by simp [hy]))
   have hxm : x.length ≤ maxLen := hx1
   obtain ⟨v, hrun, _, hv2⟩ := hS.look x hxm
   obtain ⟨k, hrunI, hat, _⟩ := hown.lookup_int keyedS Tryz.underlying90 Tryz.underlying3 (zeroI _) (keyS x hxm)
   rw [hI.val] at hat
   have hk : k = if x ∈ I then 1 else 0 := by
    injection hat with hat
    injection hat with _ hat
    exact hat.symm
   clear hat g5 g6 hr
   have hml : msize wr q = I.length := by rw [msize_of hown, hI.size]
   have i0 : (W'.length : Int) + 1 - 1 = (W'.length : Int) := by omega
   have hwl : W'.length ≤ 9223372036854775000 := by unfold maxLen at g4; omega
   have i1 : IntKind.i64.wrap (W'.length : Int) = (W'.length : Int) := by rw [IntKind.wrap_i64]; omega
   have i2 : (W'.length : Int) ≤ (cap : Int) := by omega
   have i3 : (0 : Int) ≤ (W'.length : Int) ∧ (W'.length : Int) < (W'.length : Int) + 1 := by omega
   have i4 : (0 : Int) < (W'.length : Int) + 1 := by omega
   by_cases hin : x ∈ keysE T
   case neg =>
    rw [show decide (x ∈ keysE T) = false from by simpa using hin] at hrun
    obtain rfl := hv2 hin
    clear hv2 hrunI hk
    go_wp2_with fail
    exact ⟨⟨I, W', D, hr', hown, hI, Lib.hid (HR.out.skip (.inl hin)), HW', by omega, hbr, hsr⟩, by simp [lenS]⟩
   case pos =>
   rw [show decide (x ∈ keysE T) = true from by simpa using hin] at hrun
   clear hv2
   by_cases hI2 : x ∈ I
   case pos =>
    rw [if_pos hI2] at hk
    subst hk
    go_wp2_with fail
    exact ⟨⟨I, W', D, hr', hown, hI, Lib.hid (HR.out.skip (.inr hI2)), HW', by omega, hbr, hsr⟩, by simp [lenS]⟩
   case neg =>
   rw [if_neg hI2] at hk
   subst hk
   have htd := hown.tidy keyedS
   obtain ⟨w2, hrun2, hown2, hg2⟩ := hown.update keyedS Tryz.underlying90 (by unfold maxLen; omega) (keyS x hxm) (show plainElem Tryz.prog 3 (.int .i64 1) = some (.lit (.int .i64 1), []) from plainElem_int Tryz.underlying3 (by decide))
   have hI3 := hI.put htd x hI2
   have hb2 : Below w.heap.size w w2 := hbr.grown hg2 hbr.size (fun j hj => by cases hj; exact hqw)
   have hr2 : SRow w2 (q + 1) (.slice (some ⟨g, 0, none⟩) W'.length cap) W' := hr'.grown hg2 (fun k hk e => by have := hr'.own k hk; injection e with e; omega)
   have hs2 := Nat.le_trans hsr hg2.size
   have hR2 := Lib.hid (HR.out.take hin hI2)
   have hn2 := snode_any base p b T HSH.out x hxm w2 (HS.out.keep hb2)
   have hkd : kidsT T x = if (nodeT T x).2 = 0 then kidsF (nodeT T x).1.kid else [] := rfl
   have hk16 := kids_le T x
   have hksh := kids_short T x
   generalize nodeT T x = nt at *
   obtain ⟨⟨kd, pa, va, kk⟩, code⟩ := nt
   simp only at hn2 hkd
   have HKS : Hid (∀ y ∈ kidsT T x, y.length ≤ 32) := Lib.hid hksh
   have HK16 := Lib.hid hk16
   have HKD := Lib.hid hkd
   clear hksh hk16 hkd hr' hown hg2 hbr hsr hI htd
   generalize kidsT T x = ks at *
   have hw1 : IntKind.i64.wrap (0 + 1) = 1 := by rw [IntKind.wrap_i64]; omega
   go_wp2_with fail
   refine hn2.mono ?_
   rintro e w3 ⟨rfl, hb⟩
   have hb3 := hb2.trans (hb.mono hb2.size)
   have hr3 := hr2.keep hb
   have hown3 := ownsMap_at hown2 (hb.block q (by omega))
   have hs3 := Nat.le_trans hs2 hb.size
   clear hn2 hb hb2 hr2 hown2 hs2 hrun hrunI hrun2 b1 b2 b3
   by_cases hc : code = 0
   case pos =>
    subst hc
    have hks := HKD.out
    rw [if_pos rfl] at hks
    have hkc := fun W => kids_any kd pa va kk W
    rw [← hks] at hkc
    clear hks
    go_wp2_with (first | (refine wpList_node rfl (.tmp 10) rfl rfl N4 ?_) | (refine wpList_nodeStore rfl rfl (.tmp 10) (.tmp 54) rfl rfl (kind := kd) (path := pa) (val := va) (kid := kk) rfl (k2 := 0) (p2 := []) (v2 := []) (kid2 := noK) (Blk.new' (by simp)) ?_; intro w4 N4 m4))
    refine (hkc _).mono ?_
    rintro e w5 ⟨xa, xc, rfl, hk5, hb5⟩
    have hb34 : Below w3.heap.size w3 w4 := Below.mod (Below.allocS (Below.refl _ _) _) m4 (by simp) (by simp)
    have hb4 := hb3.trans (hb34.mono hb3.size)
    have hr4 := hr3.keep hb34
    have hown4 := ownsMap_at hown3 (hb34.block q (by omega))
    have hs4 := Nat.le_trans hs3 hb34.size
    clear hb34 m4 hb3 hr3 hown3 hs3
    have hb5' := hb4.trans (hb5.mono hb4.size)
    have hr5 := hr4.keep hb5
    have hown5 := ownsMap_at hown4 (hb5.block q (by omega))
    have hs5 := Nat.le_trans hs4 hb5.size
    have hk5s := hk5.ss
    have hkl := HK16.out
    clear hb5 hb4 hr4 hown4 hs4 hk5 N4
    go_wp2_with (refine wpList_appSS rfl (.tmp 58) (.tmp 60) rfl (q + 1) (.slice (some ⟨g, 0, none⟩) W'.length cap) W' rfl hr5 _ ks rfl hk5s (by omega) hs5 ?_; intro v6 w6 hr6 hb6)
    have hown6 := ownsMap_at hown5 (hb6.block q (by omega))
    have hf6 := hr6.form
    obtain ⟨a6, c6, rfl⟩ := hf6
    have hm6 : msize w6 q = I.length + 1 := by rw [msize_of hown6, hI3.size]; simp
    have hle := hR2.out.len
    simp only [List.length_append, List.length_cons, List.length_nil] at hle
    refine ⟨⟨I ++ [x], W' ++ ks, _, hr6, ?_, hI3, hR2, Lib.hid (fun y hy => ?_), ?_, hb5'.trans (hb6.mono (by omega)), Nat.le_trans hs5 hb6.size⟩, ?_⟩
    ·rw [List.length_append]; exact hown6
    ·rcases List.mem_append.1 hy with hy | hy
     ·exact HW'.out y hy
     ·have := HKS.out y hy; unfold maxLen; omega
    ·rw [List.length_append, List.length_append, List.length_cons, List.length_nil]; omega
    ·rw [hm6, hml]
     simp only [lenS, List.length_append]
     omega
   case neg =>
    have ez : (code == 0) = false := by simpa using hc
    have hks := HKD.out
    rw [if_neg hc] at hks
    go_wp2_with (refine wpList_nodeStore rfl rfl (.tmp 10) (.tmp 54) rfl rfl (kind := kd) (path := pa) (val := va) (kid := kk) rfl (k2 := 0) (p2 := []) (v2 := []) (kid2 := noK) (Blk.new' (by simp)) ?_; intro w4 N4 m4)
    have hb34 : Below w3.heap.size w3 w4 := Below.mod (Below.allocS (Below.refl _ _) _) m4 (by simp) (by simp)
    have hb4 := hb3.trans (hb34.mono hb3.size)
    have hr4 := hr3.keep hb34
    have hown4 := ownsMap_at hown3 (hb34.block q (by omega))
    have hs4 := Nat.le_trans hs3 hb34.size
    clear hb34 m4 hb3 hr3 hown3 hs3
    have hm6 : msize w4 q = I.length + 1 := by rw [msize_of hown4, hI3.size]; simp
    have hle := hR2.out.len
    simp only [List.length_append, List.length_cons, List.length_nil] at hle
    refine ⟨⟨I ++ [x], W', _, hr4, ?_, hI3, ?_, HW', ?_, hb4, hs4⟩, ?_⟩
    ·rw [List.length_append]; exact hown4
    ·have := hR2.out
     rw [hks, List.append_nil] at this
     exact Lib.hid this
    ·rw [List.length_append, List.length_cons, List.length_nil]; omega
    ·rw [hm6, hml]
     simp only [lenS]
     omega
end Go.Proofs.YtjppbomngnomhaaGreatDoor
namespace Go.Proofs.YtjppbomngnomhaaGreatDoor
open Go.RowKit Go.WideMaps Go.Maps Go.Sort Go.Shelf Pl
theorem own_tight {H : Type} {w : World} {R : Value → Option (DataW H × List MemPlace)} {b n : Nat} {D : DataW H} (h : w.ownsMap Tryz.prog 9 R b n D) : w.ownsMap Tryz.prog 9 R b (Maps.size D) D := by
 obtain ⟨es, c, h1, h2, h3, rfl⟩ := h
 exact ⟨es, c, h1, h2, by simp [Maps.size, length_sorted], rfl⟩
def dropT (T : List Ent) (x : Bs) : List Ent := T.filter (fun e => !(e.1 == x))
theorem drop_keys {T : List Ent} {x k : Bs} : k ∈ keysE (dropT T x) ↔ k ∈ keysE T ∧ k ≠ x := by
 rw [mem_keys, mem_keys]
 unfold dropT
 constructor
 ·rintro ⟨t, h⟩
  rw [List.mem_filter] at h
  exact ⟨⟨t, h.1⟩, by simpa using h.2⟩
 ·rintro ⟨⟨t, h⟩, hne⟩
  exact ⟨t, List.mem_filter.2 ⟨h, by simpa using hne⟩⟩
theorem drop_out {T : List Ent} {x : Bs} (h : x ∉ keysE T) : dropT T x = T := by
 unfold dropT
 rw [List.filter_eq_self]
 intro e he
 have : e.1 ≠ x := fun e2 => h (by rw [← e2]; exact mem_keys.2 ⟨e.2, he⟩)
 simpa using this
theorem drop_len : ∀ {T : List Ent} {x : Bs}, (keysE T).Nodup → x ∈ keysE T → (dropT T x).length + 1 = T.length
 | [], x, _, h => by cases h
 | e :: r, x, hn, h => by
  unfold keysE at hn
  rw [List.map_cons, List.nodup_cons] at hn
  by_cases he : e.1 = x
  ·have h0 := drop_out (T := r) (x := x) (by rw [← he]; exact hn.1)
   unfold dropT at h0 ⊢
   rw [List.filter_cons_of_neg (by simp [he]), h0]
   rfl
  ·have hr : x ∈ keysE r := by
    rcases List.mem_cons.1 h with h | h
    ·exact absurd h.symm he
    ·exact h
   have h0 := drop_len (T := r) (x := x) hn.2 hr
   unfold dropT at h0 ⊢
   rw [List.filter_cons_of_pos (by simp [he])]
   simp only [List.length_cons]
   omega
theorem StoD.del {w : World} {base : Nat} {D : DataW Value} {T : List Ent} (h : StoD w base D T) (hD : Tidy D) {x : Bs} (hx : x ∈ keysE T) : StoD w base (D.del (.string x)) (dropT T x) := by
 refine ⟨fun k => ?_, fun e he => ?_, ?_, ?_⟩
 ·by_cases e : k = x
  ·subst e
   rw [has_del_same]
   have : k ∉ keysE (dropT T k) := fun h => (drop_keys.1 h).2 rfl
   simp [this]
  ·rw [has_del_other (by intro h; injection h with h; exact e h), h.has, decide_eq_decide, drop_keys]
   simp [e]
 ·unfold dropT at he
  rw [List.mem_filter] at he
  obtain ⟨v, h1, h2⟩ := h.val e he.1
  have hne : e.1 ≠ x := by simpa using he.2
  exact ⟨v, by rw [atKey_del_other (by intro h; injection h with h; exact hne h)]; exact h1, h2⟩
 ·exact List.Nodup.sublist (List.Sublist.map _ List.filter_sublist) h.nodup
 ·have h1 := size_del hD (k := .string x)
  rw [h.has, if_pos (by simpa using hx), h.size] at h1
  have h2 := drop_len h.nodup hx
  omega
def keepT (T : List Ent) (I : List Bs) : List Ent := T.filter (fun e => decide (e.1 ∈ I))
def goneT (T : List Ent) (I l : List Bs) : List Ent := T.filter (fun e => decide (e.1 ∈ I) || !decide (e.1 ∈ l))
theorem gone_nil (T : List Ent) (I : List Bs) : goneT T I [] = T := by
 unfold goneT
 rw [List.filter_eq_self]
 intro e _
 simp
theorem gone_all (T : List Ent) (I l : List Bs) (h : ∀ k ∈ keysE T, k ∈ l) : goneT T I l = keepT T I := by
 unfold goneT keepT
 refine List.filter_congr (fun e he => ?_)
 have := h e.1 (mem_keys.2 ⟨e.2, he⟩)
 simp [this]
theorem gone_stay (T : List Ent) (I l : List Bs) (x : Bs) (hx : x ∈ I) : goneT T I (l ++ [x]) = goneT T I l := by
 unfold goneT
 refine List.filter_congr (fun e _ => ?_)
 by_cases h : e.1 = x
 ·rw [h]; simp [hx]
 ·simp [h]
theorem gone_drop (T : List Ent) (I l : List Bs) (x : Bs) (hx : x ∉ I) : goneT T I (l ++ [x]) = dropT (goneT T I l) x := by
 unfold goneT dropT
 rw [List.filter_filter]
 refine List.filter_congr (fun e _ => ?_)
 by_cases h : e.1 = x
 ·rw [h]; simp [hx]
 ·simp [h]
theorem gone_mem {T : List Ent} {I l : List Bs} {k : Bs} : k ∈ keysE (goneT T I l) ↔ k ∈ keysE T ∧ (k ∈ I ∨ k ∉ l) := by
 rw [mem_keys, mem_keys]
 unfold goneT
 constructor
 ·rintro ⟨t, h⟩
  rw [List.mem_filter] at h
  exact ⟨⟨t, h.1⟩, by simpa using h.2⟩
 ·rintro ⟨⟨t, h⟩, hne⟩
  exact ⟨t, List.mem_filter.2 ⟨h, by simpa using hne⟩⟩
theorem gone_len (T : List Ent) (I l : List Bs) : (goneT T I l).length ≤ T.length := List.length_filter_le _ _
theorem grown_below2 {w w' : World} {r : Option Nat} (h : Below w.heap.size w w') : w.grownBy w' r := ⟨h.os, h.tape, h.output, h.size, fun k hk _ => h.block k hk⟩
theorem grown_trans2 {w w1 w2 : World} {r : Option Nat} (h : w.grownBy w1 r) (k : w1.grownBy w2 r) : w.grownBy w2 r :=
 ⟨k.os.trans h.os, k.tape.trans h.tape, k.output.trans h.output, Nat.le_trans h.size k.size, fun i hi hne => (k.block i (Nat.lt_of_lt_of_le hi h.size) hne).trans (h.block i hi hne)⟩
theorem Sto.not_p {w : World} {base p b : Nat} {T : List Ent} (h : Sto w base p b T) : p ≠ b := by
 intro e
 subst e
 obtain ⟨D, ⟨es, c, hm, _⟩, _⟩ := h.own
 have := h.cell
 rw [hm] at this
 cases this
theorem Sto.map {w : World} {base p b : Nat} {T : List Ent} (h : Sto w base p b T) : ∃ es c, w.heap[b]? = some (Obj.map es c) := by
 obtain ⟨D, ⟨es, c, hm, _⟩, _⟩ := h.own
 exact ⟨es, c, hm⟩
theorem Sto.drop {w w' : World} {base p b n : Nat} {T : List Ent} {D : DataW Value} {x : Bs} (h : Sto w base p b T) (hD : StoD w base D T) (ht : Tidy D) (hx : x ∈ keysE T) (ho : w'.ownsMap Tryz.prog 9 hR b n (D.del (.string x))) (hg : w.grownBy w' (some b)) : Sto w' base p b (dropT T x) := by
 have hpb := h.not_p
 have hnb : ∀ g c fz, w.heap[g]? = some (Obj.cells c 5 fz) → some g ≠ some b := by
  intro g c fz hg' e
  injection e with e
  subst e
  obtain ⟨es, cl, hm⟩ := h.map
  rw [hm] at hg'
  cases hg'
 have hd := hD.del ht hx
 refine ⟨h.hp, h.hb, (hg.block p h.lt (by simpa using hpb)).trans h.cell, by have := h.lt; have := hg.size; omega, _, ?_, hd.kept hg.size (fun g c fz hg' => hg.block g (stok_lt (.inr (.inl ⟨c, fz, hg'⟩))) (hnb g c fz hg'))⟩
 rw [← hd.size]
 exact own_tight ho
theorem skeep_anyM (base base2 p b : Nat) (T : List Ent) (hsh : ShortE T) (hT : T.length ≤ 100000) (u : Value) (S : List Bs) (hSn : S.length ≤ 100000) (hSl : ∀ x ∈ S, x.length ≤ maxLen) (hkl : ∀ x ∈ keysE T, x.length ≤ maxLen) (w : World) (h : Sto w base p b T) (hu : SRow w base2 u S) :
  Calls Tryz.prog 26 #[.pointer (some ⟨p, 0, none⟩), u] w fun e w' => ∃ I : List Bs, (∀ s, s ∈ I ↔ Rch T S s) ∧ e = .returned (.int .i64 (((T.length - (keepT T I).length : Nat) : Int))) ∧ Sto w' base p b (keepT T I) ∧ w.grownBy w' (some b) := by
 have hre := reached_anyM base base2 p b T hsh hT u S hSn hSl w h hu
 have hblt := h.blt
 have HS := Lib.hid h
 have HKL := Lib.hid hkl
 clear h hu hkl
 go_enter Tryz.func26, Tryz.ntmps26
 go_wp2_with fail
 refine hre.mono ?_
 rintro e w1 ⟨q, I, D, rfl, hq, hown, hI, hnd, hR, hk, hb⟩
 have h1 := HS.out.keep hb
 have hsu := ssums_any base p b T hT w1 h1
 have HR := Lib.hid hR
 have hs1 := hb.size
 have hg1 : w.grownBy w1 (some b) := grown_below2 hb
 clear hre hk hR hnd hb
 go_wp2_with fail
 refine hsu.mono ?_
 rintro e w2 ⟨v, rfl, hr2, hb2⟩
 have h2 := h1.keep hb2
 have hown2 := ownsMap_at hown (hb2.block q hown.lt)
 have hg2 : w.grownBy w2 (some b) := grown_trans2 hg1 (grown_below2 hb2)
 have hLk : ∀ k ∈ keysE T, k ∈ sortB (keysE T) := fun k hk => (sortB_perm (keysE T)).mem_iff.2 hk
 have hLs : ∀ k ∈ sortB (keysE T), k ∈ keysE T := fun k hk => (sortB_perm (keysE T)).mem_iff.1 hk
 have hLn : (sortB (keysE T)).Nodup := (sortB_perm (keysE T)).nodup_iff.2 h1.nodup
 have hLl : (sortB (keysE T)).length ≤ 100000 := by rw [(sortB_perm (keysE T)).length_eq]; unfold keysE; rw [List.length_map]; exact hT
 clear hsu h1 hown hg1 hb2
 generalize sortB (keysE T) = L at *
 obtain ⟨va, vc, rfl⟩ := hr2.form
 have HLK := Lib.hid hLk
 have HLS := Lib.hid hLs
 have HLN := Lib.hid hLn
 clear hLk hLs hLn
 go_wp2_with fail
 go_loopw [15, 6, 8] (fun s15 s6 _ wr => ∃ (n gone : Nat), s15 = .int .i64 n ∧ s6 = .int .i64 gone ∧ n ≤ L.length ∧ Sto wr base p b (goneT T I (L.take n)) ∧ gone + (goneT T I (L.take n)).length = T.length ∧ w2.grownBy wr (some b)) (fun s15 _ _ _ => L.length - (intOf s15).toNat)
 case atStart => exact ⟨0, 0, rfl, rfl, Nat.zero_le _, by rw [List.take_zero, gone_nil]; exact h2, by rw [List.take_zero, gone_nil]; omega, ⟨rfl, rfl, rfl, Nat.le_refl _, fun _ _ _ => rfl⟩⟩
 case round =>
  obtain ⟨n, gone, rfl, rfl, hn, hS, hgo, hgr⟩ := hrel
  clear h2
  obtain ⟨b1, b2, b3⟩ := id hS.blk
  by_cases hlt : n < L.length
  ·have d1 : decide ((n : Int) < (L.length : Int)) = true := by simp; omega
   have i0 : 0 ≤ (n : Int) ∧ (n : Int) < (L.length : Int) := by omega
   have hw0 : IntKind.i64.wrap ((n : Int) + 1) = (n : Int) + 1 := by rw [IntKind.wrap_i64]; omega
   have hrr : SRow wr w1.heap.size (.slice va L.length vc) L := hr2.grown hgr (fun k hk e => by have := hr2.own k hk; injection e with e; omega)
   obtain ⟨g, off, rfl, hgl, q0⟩ := hrr.ss.at' n hlt
   have htk := takeSo L n hlt
   have hxk : L.getD n [] ∈ keysE T := HLS.out _ (by rw [List.getD_eq_getElem?_getD, List.getElem?_eq_getElem hlt]; exact List.getElem_mem _)
   have hxn : L.getD n [] ∉ L.take n := by
    have := HLN.out
    rw [← List.take_append_drop n L, List.nodup_append] at this
    intro hm
    refine this.2.2 _ hm (L.getD n []) ?_ rfl
    rw [dropS L n hlt]
    simp
   generalize L.getD n [] = x at *
   have hxm := HKL.out x hxk
   have hownr := ownsMap_at hown2 (hgr.block q hown2.lt (fun e => by injection e with e; omega))
   obtain ⟨k, hrunI, hat, _⟩ := hownr.lookup_int keyedS Tryz.underlying90 Tryz.underlying3 (zeroI _) (keyS x hxm)
   rw [hI.val] at hat
   have hkv : k = if x ∈ I then 1 else 0 := by
    injection hat with hat
    injection hat with _ hat
    exact hat.symm
   clear hat hrr hownr
   by_cases hxI : x ∈ I
   ·rw [if_pos hxI] at hkv
    subst hkv
    go_wp2_with fail
    refine ⟨⟨n + 1, gone, rfl, rfl, by omega, ?_, ?_, hgr⟩, by simp [intOf]; omega⟩
    ·rw [htk, gone_stay _ _ _ _ hxI]; exact hS
    ·rw [htk, gone_stay _ _ _ _ hxI]; exact hgo
   ·rw [if_neg hxI] at hkv
    subst hkv
    have hxg : x ∈ keysE (goneT T I (L.take n)) := gone_mem.2 ⟨hxk, .inr hxn⟩
    have hdl := drop_len hS.nodup hxg
    obtain ⟨D', ho', hD'⟩ := hS.own
    have htd := ho'.tidy keyedS
    have hglen := gone_len T I (L.take n)
    have hw1 : IntKind.i64.wrap ((gone : Int) + 1) = (gone : Int) + 1 := by rw [IntKind.wrap_i64]; omega
    have HSr := Lib.hid hS
    clear hS
    go_wp2_with (first
     | (at_delete; refine wpList_delete_own _ rfl _ _ 84 9 rfl 59 keyedS Tryz.underlying84 hR b _ D' rfl ho' _ _ rfl (keyS x hxm) ?_; intro w3 ho3 ht3)
     | fail)
    have hg3 := ht3.grown
    have hS3 := HSr.out.drop hD' htd hxg ho3 hg3
    refine ⟨⟨n + 1, gone + 1, rfl, rfl, by omega, ?_, ?_, grown_trans2 hgr hg3⟩, by simp [intOf]; omega⟩
    ·rw [htk, gone_drop _ _ _ _ hxI]; exact hS3
    ·rw [htk, gone_drop _ _ _ _ hxI]; omega
  ·have e : n = L.length := by omega
   subst e
   have d1 : decide ((L.length : Int) < (L.length : Int)) = false := by simp
   rw [List.take_length, gone_all T I L HLK.out] at hS hgo
   go_wp2_with fail
   all_goals (go_ret; exact ⟨I, HR.out, (by rw [show T.length - (keepT T I).length = gone from by omega]; rfl), hS, grown_trans2 hg2 hgr⟩)
end Go.Proofs.YtjppbomngnomhaaGreatDoor
namespace Go.Proofs.YtjppbomngnomhaaGreatDoor
open Go.RowKit Go.WideMaps Go.Maps Go.Sort Pl
structure MM (w w' : World) : Prop where
 os : w'.os = w.os
 tape : w'.tape = w.tape
 output : w'.output = w.output
 size : w.heap.size ≤ w'.heap.size
 block : ∀ (k : Nat) (o : Obj), w.heap[k]? = some o → (∀ es c, o ≠ Obj.map es c) → w'.heap[k]? = some o
theorem heap_lt {w : World} {k : Nat} {o : Obj} (h : w.heap[k]? = some o) : k < w.heap.size := by
 rcases Nat.lt_or_ge k w.heap.size with h1 | h1
 ·exact h1
 ·rw [Array.getElem?_eq_none h1] at h; cases h
def IsMap (w : World) (m : Nat) : Prop := ∃ es c, w.heap[m]? = some (Obj.map es c)
theorem MM.of_grown {w w' : World} {m : Nat} (hm : IsMap w m) (h : w.grownBy w' (some m)) : MM w w' :=
 ⟨h.os, h.tape, h.output, h.size, fun k o ho hn => (h.block k (heap_lt ho) (fun e => by
  injection e with e
  subst e
  obtain ⟨es, c, hm⟩ := hm
  rw [hm] at ho
  injection ho with ho
  exact hn es c ho.symm)).trans ho⟩
theorem cell_obj {w : World} {a : Addr} {v : Value} (h : w.cell? a = some v) : ∃ o, w.heap[a.block]? = some o ∧ ∀ es c, o ≠ Obj.map es c := by
 unfold World.cell? at h
 split at h
 ·rename_i c t f he
  exact ⟨_, he, fun es c e => by cases e⟩
 ·cases h
theorem MM.at' {w w' : World} (h : MM w w') {k : Nat} (hc : ∃ o, w.heap[k]? = some o ∧ ∀ es c, o ≠ Obj.map es c) : w'.heap[k]? = w.heap[k]? := by
 obtain ⟨o, ho, hn⟩ := hc
 rw [ho]; exact h.block k o ho hn
theorem MM.cell {w w' : World} (h : MM w w') {a : Addr} {v : Value} (hc : w.cell? a = some v) : w'.cell? a = some v :=
 (World.cell?_of_block (h.at' (cell_obj hc))).trans hc
theorem Blk.mm {w w' : World} (h : MM w w') {b : Nat} {cs : Array Value} (hB : Blk w b cs) (hne : 0 < cs.size) : Blk w' b cs := by
 have h0 : w.cell? ⟨b, 0, none⟩ = some cs[0] := (hB.cell 0).trans (by simp [hne])
 have hb := h.at' (k := b) (cell_obj h0)
 exact ⟨fun o => (World.cell?_of_block (a := ⟨b, o, none⟩) hb).trans (hB.cell o), fun o => (World.frozen?_of_block (a := ⟨b, o, none⟩) hb).trans (hB.froz o), Nat.lt_of_lt_of_le hB.lt h.size⟩
theorem KT.mm {w w' : World} (h : MM w w') (hk : KT w) : KT w' :=
 ⟨fun i hi => h.cell (hk.cell i hi), Nat.lt_of_lt_of_le hk.lt h.size⟩
theorem KAt.mm {w w' : World} (h : MM w w') {t : Tri} {p : Option Nat} (hT : KAt w t p) : KAt w' t p := by
 induction hT with
 | nil => exact .nil
 | knot t b ps hn hk hB ih =>
  refine .knot t b ps hn ih (hB.mm h ?_)
  simp only [List.size_toArray, kn_len]
  omega
theorem TAt.mm {w w' : World} (h : MM w w') {pt : Nat} {t : Tri} (hT : TAt w pt t) : TAt w' pt t := by
 obtain ⟨kp, h1, h2⟩ := hT
 exact ⟨kp, h1.mm h (by simp), h2.mm h⟩
theorem SRow.mm {w w' : World} (h : MM w w') {base : Nat} {v : Value} {l : List Bs} (hr : SRow w base v l) : SRow w' base v l :=
 hr.kept (fun k hk => h.at' (by
  rcases hr.2 with ⟨rfl, _⟩ | ⟨g', cap, cur, rfl, h1, h2, _⟩
  ·cases hk
  ·cases hk; exact ⟨_, h2, fun es c e => by cases e⟩))
theorem Sto.ismap {w : World} {base p b : Nat} {T : List Ent} (h : Sto w base p b T) : IsMap w b := h.map
theorem Sto.mm {w w' : World} {base p b : Nat} {T : List Ent} (h : Sto w base p b T) (hm : MM w w') (hb : w'.heap[b]? = w.heap[b]?) : Sto w' base p b T := by
 obtain ⟨D, ho, hD⟩ := h.own
 exact ⟨h.hp, h.hb, hm.block p _ h.cell (fun es c e => by cases e), by have := h.lt; have := hm.size; omega, D, ownsMap_at ho hb, hD.kept hm.size (fun g c fz hg => by rw [hg]; exact hm.block g _ hg (fun es c e => by cases e))⟩
end Go.Proofs.YtjppbomngnomhaaGreatDoor
namespace Go.Proofs.YtjppbomngnomhaaGreatDoor
open Go.RowKit Go.WideMaps Go.Maps Go.Sort Pl
def saveT (T : List Ent) (l : List Bs) : List Ent := l.foldl Go.Proofs.YtjppbomngnomhaaGreatDoor.putT T
theorem saveT_app (T : List Ent) (a : List Bs) (x : Bs) : saveT T (a ++ [x]) = Go.Proofs.YtjppbomngnomhaaGreatDoor.putT (saveT T a) x := by simp [saveT]
theorem putE_len (T : List Ent) (x : Bs) : (Go.Proofs.YtjppbomngnomhaaGreatDoor.putT T x).length ≤ T.length + 1 := by
 unfold Go.Proofs.YtjppbomngnomhaaGreatDoor.putT
 split <;> simp
theorem saveT_len (T : List Ent) : ∀ (l : List Bs), (saveT T l).length ≤ T.length + l.length := by
 intro l
 induction l generalizing T with
 | nil => simp [saveT]
 | cons x r ih =>
  have h1 := putE_len T x
  have h2 := ih (Go.Proofs.YtjppbomngnomhaaGreatDoor.putT T x)
  simp only [saveT, List.foldl_cons, List.length_cons] at h2 ⊢
  omega
theorem nodes_small : ∀ (t : Tri) (n : Nat), n ≤ 16 → okT t n → canT t → ∀ x ∈ nodesT t, x.length ≤ 1000 ∧ ∃ k p v kid, chk k p v kid = true ∧ x = enc k p v kid := by
 have key : ∀ (t : Tri) (n : Nat), n ≤ 16 → okT t n → canT t → t ≠ .nil → (textT t).length ≤ 1000 ∧ ∃ k p v kid, chk k p v kid = true ∧ textT t = enc k p v kid := fun t n hn ho hc hne => by
  have hck := chk_can t n hn ho hc hne
  rw [text_enc hck]
  exact ⟨enc_small _ _ _ _ hck, _, _, _, _, hck, rfl⟩
 intro t
 induction t with
 | nil => intro n _ _ _ x hx; cases hx
 | leaf p v =>
  intro n hn ho hc x hx
  simp only [nodesT, List.mem_singleton] at hx
  subst hx
  exact key _ n hn ho hc (by simp)
 | ext p t ih =>
  intro n hn ho hc x hx
  simp only [nodesT, List.mem_cons] at hx
  rcases hx with rfl | hx
  ·exact key _ n hn ho hc (by simp)
  ·exact ih (n - p.length) (by omega) ho.2.2.2 hc.2 x hx
 | br v kids ih =>
  intro n hn ho hc x hx
  simp only [nodesT, List.mem_cons, List.mem_flatMap, List.mem_range] at hx
  rcases hx with rfl | ⟨i, _, hx⟩
  ·exact key _ n hn ho hc (by simp)
  ·rcases ho i with h | ⟨_, h2, h3⟩
   ·rw [h] at hx; cases hx
   ·exact ih i (n - 1) (by omega) h3 (hc.2.2 i) x hx
theorem tsave_any (base p b : Nat) (T : List Ent) (pt : Nat) (t : Tri) (ho : okT t 16) (hc : canT t) (hl : (nodesT t).length ≤ 50000) (hTl : T.length ≤ 50000) (w : World) (hk : KT w) (hT : TAt w pt t) (hS : Sto w base p b T) :
  Calls Tryz.prog 23 #[.pointer (some ⟨pt, 0, none⟩), .pointer (some ⟨p, 0, none⟩)] w fun e w' => e = .returned (.string ⟨List.toArray (sumT t)⟩) ∧ Sto w' base p b (saveT T (nodesT t)) ∧ w.grownBy w' (some b) := by
 have HN := Lib.hid (nodes_any pt t ho (by omega) w hT)
 have HSM := Lib.hid (fun x hx => (nodes_small t 16 (by omega) ho hc x hx).1)
 have HS := Lib.hid hS
 have HT := Lib.hid hT
 have HK := Lib.hid hk
 have hbl := hS.blt
 have HSA := Lib.hid (fun l => saveT_len T l)
 clear hT hS hk ho hc
 generalize nodesT t = L at *
 go_enter Tryz.func23, Tryz.ntmps23
 go_wp2_with fail
 refine HN.out.mono ?_
 rintro e w1 ⟨v, rfl, hr, hb1⟩
 have h1 := HS.out.keep hb1
 obtain ⟨va, vc, rfl⟩ := hr.form
 have HR := Lib.hid hr
 have HM1 := Lib.hid h1.ismap
 clear hr HN
 go_wp2_with fail
 go_loopw [10, 6] (fun s10 s6 wr => ∃ n : Nat, s10 = .int .i64 n ∧ n ≤ L.length ∧ Hid (Sto wr base p b (saveT T (L.take n))) ∧ Hid (w1.grownBy wr (some b))) (fun s10 _ _ => L.length - (intOf s10).toNat)
 case atStart => exact ⟨0, rfl, by omega, Lib.hid (by rw [List.take_zero]; exact h1), Lib.hid ⟨rfl, rfl, rfl, Nat.le_refl _, fun _ _ _ => rfl⟩⟩
 case round =>
  obtain ⟨n, rfl, hn, HSR, HG⟩ := hrel
  clear h1
  by_cases hlt : n < L.length
  ·have d1 : decide ((n : Int) < (L.length : Int)) = true := by simp; omega
   have i0 : 0 ≤ (n : Int) ∧ (n : Int) < (L.length : Int) := by omega
   have hrn := HR.out.mm (MM.of_grown HM1.out HG.out)
   obtain ⟨g, off, e1, hg, c1⟩ := hrn.ss.at' n hlt
   subst e1
   have hmem : L.getD n [] ∈ L := by rw [List.getD_eq_getElem?_getD, List.getElem?_eq_getElem hlt]; exact List.getElem_mem _
   have hst := HSA.out (L.take n)
   rw [List.length_take] at hst
   have HKR := Lib.hid ((HK.out.keep hb1).mm (MM.of_grown HM1.out HG.out))
   have HP := Lib.hid (sput_any base p b (saveT T (L.take n)) (L.getD n []) (HSM.out _ hmem) (by omega) _ HKR.out HSR.out)
   have HTK : Hid (L.take (n + 1) = L.take n ++ [L.getD n []]) := Lib.hid (by rw [List.take_add_one, List.getElem?_eq_getElem hlt, List.getD_eq_getElem?_getD, List.getElem?_eq_getElem hlt]; rfl)
   have HL := Lib.hid hlt
   clear hlt hmem hst hrn
   generalize L.getD n [] = x at *
   go_wp2_with fail
   refine HP.out.mono ?_
   rintro e w2 ⟨rfl, hS2, hg2⟩
   have HS2 := Lib.hid hS2
   have HG2 := Lib.hid (grown_trans2 HG.out hg2)
   clear hS2 hg2
   go_wp2_with fail
   exact ⟨⟨n + 1, by go_num, by have := HL.out; omega, Lib.hid (by rw [HTK.out, saveT_app]; exact HS2.out), HG2⟩, by have := HL.out; simp [intOf]; omega⟩
  ·have d1 : decide ((n : Int) < (L.length : Int)) = false := by simp; omega
   have d2 : decide (n < L.length) = false := by rw [decide_eq_false_iff_not]; omega
   have HS3 := HSR.out
   rw [List.take_of_length_le (by omega)] at HS3
   have HS3 := Lib.hid HS3
   have hT3 := (HT.out.keep hb1).mm (MM.of_grown HM1.out HG.out)
   have HRT := Lib.hid (troot_any pt t _ hT3)
   clear hT3 HSR hlt
   go_wp2_with fail
   refine HRT.out.mono ?_
   rintro e w2 ⟨rfl, rfl⟩
   go_wp2_with fail
   go_ret
   exact ⟨rfl, HS3.out, grown_trans2 (grown_below2 hb1) HG.out⟩
end Go.Proofs.YtjppbomngnomhaaGreatDoor
namespace Go.Proofs.YtjppbomngnomhaaGreatDoor
open Go.RowKit
def Typ (w : World) (b : Nat) (t : TypeId) : Prop := ∃ cs, w.heap[b]? = some (.cells cs t)
theorem Typ.new (w : World) (cs : Array Value) (t : TypeId) : Typ (w.alloc (.cells cs t)) w.heap.size t := ⟨cs, heap_alloc_new w _⟩
theorem Typ.lt {w : World} {b : Nat} {t : TypeId} (h : Typ w b t) : b < w.heap.size := by
 obtain ⟨cs, h⟩ := h
 rcases Nat.lt_or_ge b w.heap.size with hlt | hge
 ·exact hlt
 ·rw [Array.getElem?_eq_none hge] at h; cases h
theorem Typ.at {w w' : World} {b : Nat} {t : TypeId} (h : Typ w b t) (hb : w'.heap[b]? = w.heap[b]?) : Typ w' b t := by
 obtain ⟨cs, h⟩ := h
 exact ⟨cs, hb.trans h⟩
theorem Typ.keep {W w : World} {b : Nat} {t : TypeId} (h : Typ W b t) (hb : Below W.heap.size W w) : Typ w b t := h.at (hb.block b h.lt)
theorem Typ.set {w : World} {b : Nat} {t : TypeId} (h : Typ w b t) (o : Nat) (v : Value) : Typ (w.setCell ⟨b, o, none⟩ v) b t := by
 obtain ⟨cs, h⟩ := h
 exact ⟨_, heap_setCell h⟩
end Go.Proofs.YtjppbomngnomhaaGreatDoor
namespace Go.Proofs.YtjppbomngnomhaaGreatDoor
open Pl
theorem cnt_mono (K : Nat → Tri) : ∀ n k, k ≤ n → cntT K k ≤ cntT K n
 | 0, k, h => by rw [show k = 0 by omega]; exact Nat.le_refl _
 | n + 1, k, h => by
  by_cases e : k = n + 1
  ·subst e; exact Nat.le_refl _
  ·have := cnt_mono K n k (by omega)
   simp only [cntT]; omega
theorem loop_same (g : Bs → LSt → Tri × LSt) (K : Nat → Tri) (kid : Nat → Bs) (m0 : Nat) (hk : ∀ i, i < 16 → kid i = sumT (K i)) (hn : ∀ i, i < 16 → K i ≠ .nil → sumT (K i) ≠ [])
  (hg : ∀ i, i < 16 → K i ≠ .nil → ∀ m', m' + (rp (K i)).length ≤ 1024 → g (sumT (K i)) (m', 0) = (K i, (m' + (rp (K i)).length, 0))) (hm : m0 + cntT K 16 ≤ 1024) :
  ∀ k, k ≤ 16 → loopK g kid (m0, 0) k = (fun i => if i < k then K i else .nil, (m0 + cntT K k, 0))
 | 0, _ => by
  simp only [loopK, cntT]
  congr 1
 | k + 1, h => by
  have ih := loop_same g K kid m0 hk hn hg hm k (by omega)
  have h1 := cnt_mono K 16 (k + 1) h
  rw [show cntT K (k + 1) = cntT K k + (rp (K k)).length from rfl] at h1 ⊢
  simp only [loopK]
  rw [ih, hk k (by omega)]
  by_cases e : K k = .nil
  ·rw [e, if_pos (show sumT .nil = [] from rfl)]
   congr 1
   ·funext i
    by_cases e2 : i = k
    ·subst e2; simp [e]
    ·simp only [show (i < k + 1) = (i < k) from by rw [eq_iff_iff]; omega]
  ·rw [if_neg (hn k (by omega) e)]
   rw [hg k (by omega) e _ (by omega)]
   congr 1
   ·funext i
    simp only [updT]
    by_cases e2 : i = k
    ·subst e2; simp
    ·rw [if_neg e2]
     simp only [show (i < k + 1) = (i < k) from by rw [eq_iff_iff]; omega]
   ·rw [Nat.add_assoc]
theorem get_in {T : List Ent} {k t : Bs} (h : getT T k = some t) : k ∈ keysE T := by
 rcases Classical.em (k ∈ keysE T) with h1 | h1
 ·exact h1
 ·rw [get_none h1] at h; cases h
theorem node_at {T : List Ent} {t : Tri} (hne : t ≠ .nil) (hc : chkT t = true) (hg : getT T (tagP 1 (textT t)) = some (textT t)) : nodeT T (sumT t) = (⟨kindT t, pathT t, valT t, kidT t⟩, 0) := by
 rw [sum_text hne hc, nodeT_in (get_in hg), hg, Option.getD_some, text_enc hc, dec_enc _ _ _ _ hc]
 have : cut (kidT t) 16 = kidT t := by
  funext i
  by_cases h : i < 16
  ·simp [cut, h]
  ·simp only [cut, h, if_false]
   exact (kidT_out t i (by omega)).symm
 rw [this]
theorem text_in {t : Tri} (hne : t ≠ .nil) : textT t ∈ nodesT t := by
 cases t with
 | nil => exact absurd rfl hne
 | _ => simp [nodesT]
theorem own_one {t : Tri} (hv : valT t ≠ []) : ∃ x ∈ rp t, x.1 = pathT t := by
 cases t with
 | nil => exact absurd rfl hv
 | leaf p v => exact ⟨(p, v), by simp only [valT] at hv; simp [rp, hv], rfl⟩
 | ext p t => exact absurd rfl hv
 | br v kids => exact ⟨([], v), by simp only [valT] at hv; simp [rp, hv], rfl⟩
theorem own_ok {t : Tri} {pl m : Nat} {kid : Nat → Bs} (he : ∀ x ∈ rp t, (pl + x.1.length) % 2 = 0 ∧ pl + x.1.length ≠ 0) (hm : m + (rp t).length ≤ 1024) (hne : t ≠ .nil) :
  (ownL ⟨kindT t, pathT t, valT t, kid⟩ pl (m, 0)).1 = true ∧ (ownL ⟨kindT t, pathT t, valT t, kid⟩ pl (m, 0)).2 = (m + ownN (valT t), 0) := by
 unfold ownL
 simp only
 by_cases hv : valT t = []
 ·rw [if_pos hv]; exact ⟨rfl, by simp [ownN, hv]⟩
 ·rw [if_neg hv]
  obtain ⟨x, hx, e⟩ := own_one hv
  have h1 := he x hx
  rw [e] at h1
  have h2 := rp_len t hne
  have h3 : ownN (valT t) = 1 := by simp [ownN, hv]
  unfold itemL
  rw [if_neg (by omega), if_neg (by simp only; omega)]
  exact ⟨rfl, by rw [h3]⟩
theorem triOf_br (n : Nd) (K : Nat → Tri) (h : n.kind = 3) : triOf n K = .br n.val K := by
 unfold triOf
 rw [h, if_neg (by decide), if_neg (by decide)]
theorem badL_no {n : Nd} {pl : Nat} {bel : Bool} (h1 : bel = true → n.kind = 3) (h2 : pl + n.path.length ≤ 16) (h3 : innerL n = true → pl + n.path.length < 16) : badL n pl bel = false := by
 unfold badL
 rw [Bool.or_eq_false_iff, Bool.or_eq_false_iff]
 refine ⟨⟨?_, decide_eq_false (by omega)⟩, ?_⟩
 ·cases bel with
  | false => rfl
  | true => simp [h1 rfl]
 ·cases hi : innerL n with
  | false => rfl
  | true => have := h3 hi; simp; omega
theorem tri_of (t : Tri) (n : Nat) (hne : t ≠ .nil) (hk : okT t n) (kid : Nat → Bs) : triOf ⟨kindT t, pathT t, valT t, kid⟩ (fun i => if i < 16 then kidsOf t i else .nil) = t := by
 cases t with
 | nil => exact absurd rfl hne
 | leaf p v => simp [triOf, kindT, pathT, valT]
 | ext p t => simp [triOf, kindT, pathT, kidsOf, updT]
 | br v kids =>
  rw [triOf_br _ _ rfl]
  show Tri.br v _ = _
  congr 1
  funext i
  by_cases h : i < 16
  ·rw [if_pos h]; rfl
  ·rw [if_neg h]; exact (okT_out hk i (by omega)).symm
theorem load_step (T : List Ent) (t : Tri) (f pl : Nat) (bel : Bool) (m : Nat) (hk : okT t (16 - pl)) (hc : chkT t = true) (hne : t ≠ .nil) (hb : badL ⟨kindT t, pathT t, valT t, kidT t⟩ pl bel = false)
  (he : ∀ x ∈ rp t, (pl + x.1.length) % 2 = 0 ∧ pl + x.1.length ≠ 0) (hm : m + (rp t).length ≤ 1024) (hg : getT T (tagP 1 (textT t)) = some (textT t))
  (hs : ∀ i, i < 16 → kidsOf t i ≠ .nil → sumT (kidsOf t i) ≠ [])
  (ih : ∀ i, i < 16 → kidsOf t i ≠ .nil → ∀ m', m' + (rp (kidsOf t i)).length ≤ 1024 → loadK T f (sumT (kidsOf t i)) (atL ⟨kindT t, pathT t, valT t, kidT t⟩ pl) (kindT t == 2) (m', 0) = (kidsOf t i, (m' + (rp (kidsOf t i)).length, 0))) :
  loadK T (f + 1) (sumT t) pl bel (m, 0) = (t, (m + (rp t).length, 0)) := by
 simp only [loadK]
 rw [if_neg (by simp), node_at hne hc hg]
 rw [if_neg (by simp)]
 obtain ⟨h1, h2⟩ := own_ok (kid := kidT t) he hm hne
 have hr := rp_len t hne
 have hl := loop_same (fun s' st' => loadK T f s' (atL ⟨kindT t, pathT t, valT t, kidT t⟩ pl) (kindT t == 2) st') (kidsOf t) (kidT t) (m + ownN (valT t)) (fun i hi => kidT_at t i hi) hs ih (by omega) 16 (Nat.le_refl _)
 unfold loadN
 rw [hb, if_neg (by simp), h1, if_neg (by simp), h2]
 simp only
 rw [hl, if_neg (by simp)]
 rw [tri_of t _ hne hk, show m + ownN (valT t) + cntT (kidsOf t) 16 = m + (rp t).length from by omega]
theorem load_same (T : List Ent) : ∀ (t : Tri) (f pl : Nat) (bel : Bool) (m : Nat), okT t (16 - pl) → canT t → t ≠ .nil → pl ≤ 16 → 17 ≤ pl + f → (bel = true → isB t = true) →
  (∀ x ∈ rp t, (pl + x.1.length) % 2 = 0 ∧ pl + x.1.length ≠ 0) → m + (rp t).length ≤ 1024 → (∀ x ∈ nodesT t, getT T (tagP 1 x) = some x) → loadK T f (sumT t) pl bel (m, 0) = (t, (m + (rp t).length, 0))
 | .nil, _, _, _, _, _, _, hne, _, _, _, _, _, _ => absurd rfl hne
 | t, 0, pl, _, _, _, _, _, h1, h2, _, _, _, _ => by omega
 | .leaf p v, f + 1, pl, bel, m, hk, hc, hne, hp, hf, hb, he, hm, hg => by
  have hck := chk_can _ _ (by omega) hk hc hne
  refine load_step T _ f pl bel m hk hck hne ?_ he hm (hg _ (text_in hne)) (fun i _ h => absurd rfl h) (fun i _ h => absurd rfl h)
  have h1 : bel = false := by
   cases bel with
   | false => rfl
   | true => cases hb rfl
  have h2 := hk.2
  subst h1
  exact badL_no (fun h => (by cases h)) (by show pl + p.length ≤ 16; omega) (fun h => (by simp [innerL, kindT] at h))
 | .ext p t, f + 1, pl, bel, m, hk, hc, hne, hp, hf, hb, he, hm, hg => by
  have hck := chk_can _ _ (by omega) hk hc hne
  have h1 : bel = false := by
   cases bel with
   | false => rfl
   | true => cases hb rfl
  have h2 := hk.2.1
  have hl1 : 1 ≤ p.length := by
   rcases Nat.eq_zero_or_pos p.length with h | h
   ·exact absurd (List.length_eq_zero_iff.1 h) hk.2.2.1.2
   ·exact h
  subst h1
  refine load_step T _ f pl false m hk hck hne ?_ he hm (hg _ (text_in hne)) (fun i hi h => ?_) (fun i hi h m' hm' => ?_)
  ·exact badL_no (fun h => (by cases h)) (by show pl + p.length ≤ 16; omega) (fun h => (by simp [innerL, kindT] at h))
  ·have e : i = 0 := by
    rcases Classical.em (i = 0) with e | e
    ·exact e
    ·exact absurd (by simp [kidsOf, updT, e, noT]) h
   subst e
   have h3 := sum_len hk.2.2.1.1 (chk_can t _ (by omega) hk.2.2.2 hc.2 hk.2.2.1.1)
   intro e
   rw [show kidsOf (.ext p t) 0 = t from rfl] at e
   rw [e] at h3; cases h3
  ·have e : i = 0 := by
    rcases Classical.em (i = 0) with e | e
    ·exact e
    ·exact absurd (by simp [kidsOf, updT, e, noT]) h
   subst e
   show loadK T f (sumT t) (pl + p.length) true (m', 0) = (t, (m' + (rp t).length, 0))
   refine load_same T t f (pl + p.length) true m' (by rw [show 16 - (pl + p.length) = 16 - pl - p.length from by omega]; exact hk.2.2.2) hc.2 hk.2.2.1.1 (by omega) (by omega) (fun _ => hc.1) (fun x hx => ?_) hm' (fun x hx => hg x (by simp only [nodesT]; exact List.mem_cons_of_mem _ hx))
   have := he (p ++ x.1, x.2) (by simp only [rp, List.mem_map]; exact ⟨x, hx, rfl⟩)
   simp only [List.length_append] at this
   rw [Nat.add_assoc]; exact this
 | .br v kids, f + 1, pl, bel, m, hk, hc, hne, hp, hf, hb, he, hm, hg => by
  have hck := chk_can _ _ (by omega) hk hc hne
  have hkid : ∀ i, kids i ≠ .nil → i < 16 ∧ 1 ≤ 16 - pl ∧ okT (kids i) (16 - pl - 1) := fun i h => (hk i).resolve_left h
  refine load_step T _ f pl bel m hk hck hne ?_ he hm (hg _ (text_in hne)) (fun i hi h => ?_) (fun i hi h m' hm' => ?_)
  ·refine badL_no (fun _ => rfl) (by show pl + 0 ≤ 16; omega) (fun hno => ?_)
   show pl + 0 < 16
   rcases Nat.lt_or_ge pl 16 with h | h
   ·exact h
   ·exfalso
    have : ∀ i, kids i = .nil := fun i => by
     rcases Classical.em (kids i = .nil) with e | e
     ·exact e
     ·have := (hkid i e).2.1; omega
    have e2 : kidT (.br v kids) = noK := by
     funext i
     simp [kidT, kidF, kidsOf, this, sumT, noK]
    unfold innerL at hno
    simp only at hno
    rw [e2] at hno
    rw [show noKids noK = true from by decide, Bool.not_true, Bool.and_false] at hno
    cases hno
  ·obtain ⟨_, _, h3⟩ := hkid i h
   have h4 : (sumT (kids i)).length = 32 := sum_len h (chk_can (kids i) _ (by omega) h3 (hc.2.2 i) h)
   intro e
   have e' : sumT (kids i) = [] := e
   rw [e'] at h4; cases h4
  ·obtain ⟨_, h2, h3⟩ := hkid i h
   show loadK T f (sumT (kids i)) (pl + 1) false (m', 0) = (kids i, (m' + (rp (kids i)).length, 0))
   refine load_same T (kids i) f (pl + 1) false m' (by rw [show 16 - (pl + 1) = 16 - pl - 1 from by omega]; exact h3) (hc.2.2 i) h (by omega) (by omega) (fun h => by cases h) (fun x hx => ?_) hm' (fun x hx => hg x (by
    simp only [nodesT]
    exact List.mem_cons_of_mem _ (List.mem_flatMap.2 ⟨i, List.mem_range.2 hi, hx⟩)))
   have := he (UInt8.ofNat i :: x.1, x.2) (by
    simp only [rp, List.mem_append, List.mem_flatMap, List.mem_map]
    exact .inr ⟨i, List.mem_range.2 hi, x, hx, rfl⟩)
   simp only [List.length_cons] at this
   rw [Nat.add_assoc, Nat.add_comm 1]; exact this
theorem load_root {T : List Ent} {t : Tri} {L : List It} (hR : RepT t L) (hc : canT t) (hne : t ≠ .nil) (hL : L.length ≤ 1024) (hk : ∀ x ∈ L, x.1 ≠ []) (hg : ∀ x ∈ nodesT t, getT T (tagP 1 x) = some x) :
  loadK T 17 (sumT t) 0 false (0, 0) = (t, (L.length, 0)) := by
 have h := load_same T t 17 0 false 0 hR.ok hc hne (by omega) (by omega) (fun h => by cases h) (fun x hx => ?_) (by rw [hR.len]; omega) hg
 ·rw [h, hR.len]; simp
 ·rw [hR.items] at hx
  unfold pathsI at hx
  obtain ⟨y, hy, rfl⟩ := List.mem_map.1 hx
  have := hk y hy
  simp only [ofP_len]
  have h2 : 1 ≤ y.1.length := by
   rcases Nat.eq_zero_or_pos y.1.length with h | h
   ·exact absurd (List.length_eq_zero_iff.1 h) this
   ·exact h
  omega
theorem rp_fit : ∀ (t : Tri) (n : Nat), okT t n → ∀ x ∈ rp t, fit x.1 = true
 | .nil, _, _, x, hx => by cases hx
 | .leaf p v, n, hk, x, hx => by
  simp only [rp] at hx
  split at hx
  ·cases hx
  ·rw [List.mem_singleton] at hx; subst hx; exact hk.1
 | .ext p t, n, hk, x, hx => by
  simp only [rp, List.mem_map] at hx
  obtain ⟨y, hy, rfl⟩ := hx
  simp only [fit_app, hk.1, Bool.true_and]
  exact rp_fit t _ hk.2.2.2 y hy
 | .br v kids, n, hk, x, hx => by
  simp only [rp, List.mem_append, List.mem_flatMap, List.mem_range, List.mem_map] at hx
  rcases hx with hx | ⟨i, hi, y, hy, rfl⟩
  ·split at hx
   ·cases hx
   ·rw [List.mem_singleton] at hx; subst hx; rfl
  ·have hne : kids i ≠ .nil := fun e => by rw [e] at hy; simp [rp] at hy
   simp only [fit_cons]
   exact ⟨by rw [u8_to i hi]; exact hi, rp_fit (kids i) _ ((hk i).resolve_left hne).2.2 y hy⟩
theorem rep_of {t : Tri} (h : okT t 16) (he : ∀ x ∈ rp t, x.1.length % 2 = 0) : RepT t ((rp t).map fun x => (keyP x.1, x.2)) := by
 refine ⟨h, ?_⟩
 unfold pathsI
 rw [List.map_map]
 conv => lhs; rw [← List.map_id (rp t)]
 refine List.map_congr_left fun x hx => ?_
 have h1 := rp_fit t 16 h x hx
 have h2 := he x hx
 show x = (ofP (keyP x.1), x.2)
 unfold keyP
 rw [if_pos ⟨h1, h2⟩, ofP_joined _ h1 h2]
end Go.Proofs.YtjppbomngnomhaaGreatDoor
