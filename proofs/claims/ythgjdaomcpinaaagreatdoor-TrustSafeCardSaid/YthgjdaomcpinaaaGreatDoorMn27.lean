/- TOwnL, TImg, PairV, Below, TMade. -/
import Derived.Test.YthgjdaomcpinaaaGreatDoorRows
import Derived.Test.YthgjdaomcpinaaaGreatDoorMn2
import Derived.Test.YthgjdaomcpinaaaGreatDoorMn12
import Derived.Test.YthgjdaomcpinaaaGreatDoorMn21
import Derived.Test.YthgjdaomcpinaaaGreatDoorMn22
import Derived.Test.YthgjdaomcpinaaaGreatDoorMn23
import Derived.Test.YthgjdaomcpinaaaGreatDoorMn24
import Derived.Test.YthgjdaomcpinaaaGreatDoorMn26
set_option linter.unnecessarySimpa false

/- Lists of those that are trusted that a call itself made. -/
set_option linter.unusedSimpArgs false
set_option linter.unusedVariables false
namespace Go.Proofs.YthgjdaomcpinaaaGreatDoor
open Go.RowKit Go.WideMaps Go.Maps Go.Sort Go.Shelf Pl

theorem infoTr : (Tryz.prog.info? 27).map (fun i => (i.zero, i.size, i.bytes)) = some (some nilT, 13, 184) := by kernel_rfl
/-- One's cells. -/
def tcsX (x : Tr × Value × Value) : List Value := tcs x.1 x.2.1 x.2.2
theorem tcsX_len (x : Tr × Value × Value) : (tcsX x).length = 13 := rfl
theorem tcsX_all : ∀ (cs : List (Tr × Value × Value)), (cs.flatMap tcsX).length = cs.length * 13
  | [] => rfl
  | y :: r => by rw [List.flatMap_cons, List.length_append, tcsX_len, tcsX_all r, List.length_cons]; omega
theorem tcsX_at : ∀ (cs : List (Tr × Value × Value)) (i j : Nat) (x : Tr × Value × Value), cs[i]? = some x → j < 13 → (cs.flatMap tcsX)[i * 13 + j]? = (tcsX x)[j]?
  | [], i, j, x, h, _ => by simp at h
  | y :: r, 0, j, x, h, hj => by
    simp only [List.getElem?_cons_zero, Option.some.injEq] at h
    subst h
    rw [List.flatMap_cons, Nat.zero_mul, Nat.zero_add, List.getElem?_append_left (by rw [tcsX_len]; exact hj)]
  | y :: r, i + 1, j, x, h, hj => by
    rw [List.getElem?_cons_succ] at h
    rw [List.flatMap_cons, List.getElem?_append_right (by rw [tcsX_len]; omega), tcsX_len, show (i + 1) * 13 + j - 13 = i * 13 + j from by omega]
    exact tcsX_at r i j x h hj
theorem tcs_one (t : Tr) {sk ms : Value} {ka ma : Option Addr} {kn kc mn mc : Nat} (h1 : sk = .slice ka kn kc) (h2 : ms = .slice ma mn mc) : ∀ u ∈ tcs t sk ms, u.oneCell' = true := by
  subst h1 h2
  intro u hu
  simp only [tcs, List.mem_cons, List.not_mem_nil, or_false] at hu
  rcases hu with rfl | rfl | rfl | rfl | rfl | rfl | rfl | rfl | rfl | rfl | rfl | rfl | rfl <;> rfl
/-- v is a list of those that are trusted, all of it from base on. -/
def TO (w : World) (base : Nat) (v : Value) (l : List Tr) : Prop :=
  ∃ cs : List (Tr × Value × Value), cs.map (·.1) = l ∧ w.ownsRow base 27 13 v l.length (cs.flatMap tcsX) ∧ ∀ x ∈ cs, SRow w base x.2.1 x.1.head.skips ∧ MRow w base x.2.2 x.1.set
theorem TO.nil (w : World) (base : Nat) : TO w base (.slice none 0 0) [] := ⟨[], rfl, ⟨rfl, .inl ⟨rfl, rfl⟩⟩, fun x hx => by cases hx⟩
theorem TO.keep {w w' : World} {base : Nat} {v : Value} {l : List Tr} (h : TO w base v l) (hb : Below w.heap.size w w') : TO w' base v l := by
  obtain ⟨cs, h1, h2, h3⟩ := h
  exact ⟨cs, h1, row_belowO h2 hb, fun x hx => ⟨(h3 x hx).1.keep hb, (h3 x hx).2.keep hb⟩⟩
theorem TO.low {w : World} {base c : Nat} {v : Value} {l : List Tr} (h : TO w base v l) (hc : c ≤ base) : TO w c v l := by
  obtain ⟨cs, h1, h2, h3⟩ := h
  exact ⟨cs, h1, row_lowO h2 hc, fun x hx => ⟨(h3 x hx).1.low hc, (h3 x hx).2.low hc⟩⟩
theorem TO.modl {w w' : World} {base : Nat} {v : Value} {l : List Tr} {L : List Nat} (h : TO w base v l) (hm : Mod L w w') (hl : ∀ x ∈ L, x < base) : TO w' base v l := by
  obtain ⟨cs, h1, h2, h3⟩ := h
  have hn : ∀ {e : TypeId} {s n : Nat} {u : Value} {xs : List Value}, w.ownsRow base e s u n xs → ∀ k, u.ownBlock = some k → k ∉ L := fun hr k hk hi => by
    have h4 := (row_ltO hr hk).1
    have h5 := hl k hi
    omega
  exact ⟨cs, h1, row_modO h2 hm (hn h2), fun x hx => ⟨row_modO (h3 x hx).1 hm (hn (h3 x hx).1), row_modO (h3 x hx).2 hm (hn (h3 x hx).2)⟩⟩
theorem TO.form {w : World} {base : Nat} {v : Value} {l : List Tr} (h : TO w base v l) : ∃ a c, v = .slice a l.length c := by
  obtain ⟨cs, h1, h2, h3⟩ := h
  exact row_formO h2
theorem TO.tl {w : World} {base : Nat} {v : Value} {l : List Tr} (h : TO w base v l) : TL w v l := by
  obtain ⟨cs, h1, h2, h3⟩ := h
  rcases row_openO h2 with ⟨e, h0⟩ | ⟨g, cap, e, k1, k2, k3, k4, k5, k6⟩
  · have : l = [] := List.length_eq_zero_iff.1 h0
    subst this
    exact ⟨none, 0, e, Nat.le_refl _, by unfold maxLen; omega, fun h => absurd rfl h⟩
  · refine ⟨_, cap, e, k3, k4, fun _ => ⟨g, 0, rfl, k2, fun i t hi => ?_⟩⟩
    rw [← h1, List.getElem?_map] at hi
    obtain ⟨x, hx, rfl⟩ := Option.map_eq_some_iff.1 hi
    have hxm := List.mem_of_getElem? hx
    have hil : i < l.length := by
      have := (List.getElem?_eq_some_iff.1 hx).1
      rw [← h1, List.length_map]; exact this
    refine ⟨x.2.1, x.2.2, fun j u hj => ?_, (h3 x hxm).1.ss, (h3 x hxm).2.ms, (h3 x hxm).1.plain, (h3 x hxm).2.plain⟩
    have hj13 : j < 13 := by have := (List.getElem?_eq_some_iff.1 hj).1; simpa [tcs] using this
    rw [Nat.zero_add, k5 (i * 13 + j) (by omega), tcsX_at cs i j x hx hj13]
    exact hj
section
variable {ops : Array Oper} {o : Oper} {rest : List Oper} {a : Act} {w : World} {Q : Exit → Act → World → Prop}
/-- append(v, t). -/
theorem wp_appT {K : Act → World → Prop} (s x : Operand)
    (ho : o.op = .call { callee := .builtin .append, args := #[s, x], argTypes := #[48, 48] })
    (base : Nat) (v : Value) (l : List Tr) (hs : a.eval s = v) (hown : TO w base v l) (t : Tr) (sk ms : Value) (h1 : SRow w base sk t.head.skips) (h2 : MRow w base ms t.set)
    (q : Nat) (hx : a.eval x = .slice (some ⟨q, 0, none⟩) 1 1) (hq : Blk w q (tcs t sk ms).toArray) (hlen : l.length ≤ 1000000) (hbase : base ≤ w.heap.size)
    (h : ∀ v' w', TO w' base v' (l ++ [t]) → Below base w w' → w.grownBy w' v.ownBlock → K (a.put o.dst v') w') : o.wp Tryz.prog a w K Q := by
  obtain ⟨cs, c1, c2, c3⟩ := hown
  obtain ⟨ka, kc, hk⟩ := h1.form
  obtain ⟨ma, mc, hm⟩ := h2.form
  refine wp_appG s x 48 27 nilT 13 184 Tryz.underlying48 infoTr rfl (by decide) (by decide) ho base l.length v (cs.flatMap tcsX) (tcs t sk ms) hs c2 rfl q hx (fun j u hj => by rw [hq.cell j]; simpa using hj) (tcs_one t hk hm) hlen hbase (fun v' w' hr hg hv => ?_)
  refine h v' w' ⟨cs ++ [(t, sk, ms)], by rw [List.map_append, c1]; rfl, ?_, fun x hx => ?_⟩ (grown_below hg hbase (fun k hk => (row_ltO c2 hk).1)) hg
  · rw [List.length_append, List.flatMap_append]
    simpa [tcsX] using hr
  · have hkS : ∀ {y : Value} {l : List Bs}, SRow w base y l → SRow w' base y l := fun hy => row_grownO hy hg (fun k hk e => kinds_neO hy c2 (by decide) k hk e)
    have hkM : ∀ {y : Value} {l : List (Bs × Int)}, MRow w base y l → MRow w' base y l := fun hy => row_grownO hy hg (fun k hk e => kinds_neO hy c2 (by decide) k hk e)
    rcases List.mem_append.1 hx with hx | hx
    · exact ⟨hkS (c3 x hx).1, hkM (c3 x hx).2⟩
    · rw [List.mem_singleton] at hx
      subst hx
      exact ⟨hkS h1, hkM h2⟩
theorem wpList_appT (hgd : o.guard = none) (s x : Operand)
    (ho : o.op = .call { callee := .builtin .append, args := #[s, x], argTypes := #[48, 48] })
    (base : Nat) (v : Value) (l : List Tr) (hs : a.eval s = v) (hown : TO w base v l) (t : Tr) (sk ms : Value) (h1 : SRow w base sk t.head.skips) (h2 : MRow w base ms t.set)
    (q : Nat) (hx : a.eval x = .slice (some ⟨q, 0, none⟩) 1 1) (hq : Blk w q (tcs t sk ms).toArray) (hlen : l.length ≤ 1000000) (hbase : base ≤ w.heap.size)
    (h : ∀ v' w', TO w' base v' (l ++ [t]) → Below base w w' → w.grownBy w' v.ownBlock → wpList Tryz.prog ops Q rest (a.put o.dst v') w') : wpList Tryz.prog ops Q (o :: rest) a w :=
  wpList_plain hgd fun _ hK => wp_appT s x ho base v l hs hown t sk ms h1 h2 q hx hq hlen hbase fun v' w' h2 h3 h4 => hK _ _ (h v' w' h2 h3 h4)
end
end Go.Proofs.YthgjdaomcpinaaaGreatDoor

/- All that a store has: the law's walk of image. -/
set_option linter.unusedSimpArgs false
set_option linter.unusedVariables false
namespace Go.Proofs.YthgjdaomcpinaaaGreatDoor
open Go.RowKit Go.WideMaps Go.Maps Go.Sort Go.Shelf Pl

/-- All that a map has, in order. -/
def imgL (T : List (Int × Tr)) (l : List Int) : List Tr := l.map (fun k => (lookK T k).getD trZ)
def imgT (T : List (Int × Tr)) : List Tr := imgL T (sortZ (hts T))
theorem imgL_snoc (T : List (Int × Tr)) (l : List Int) (i : Nat) (hi : i < l.length) {t : Tr} (ht : lookK T (l.getD i 0) = some t) : imgL T (l.take (i + 1)) = imgL T (l.take i) ++ [t] := by
  unfold imgL
  rw [List.take_succ_eq_append_getElem hi, List.map_append]
  rw [List.getD_eq_getElem?_getD, List.getElem?_eq_getElem hi, Option.getD_some] at ht
  simp [ht]
theorem imgL_len (T : List (Int × Tr)) (l : List Int) : (imgL T l).length = l.length := by unfold imgL; rw [List.length_map]
theorem imgT_len (T : List (Int × Tr)) : (imgT T).length = T.length := by unfold imgT; rw [imgL_len, sortZ_len]; unfold hts; rw [List.length_map]
set_option maxRecDepth 100000 in
set_option maxHeartbeats 8000000 in
theorem timage_any (base q m : Nat) (span : Int) (jp : Value) (T : List (Int × Tr)) (hT : T.length ≤ 1000) (hsm : TrSm T) (h0 : ∀ e ∈ T, 0 ≤ e.2.at_) (hs : 1 ≤ span ∧ span ≤ 1099511627776) (w : World) (hM : TrM w base m T) (B : Blk w q #[.map (some m), .int .i64 (span), jp]) :
    Calls Tryz.prog 21 #[.pointer (some ⟨q, 0, none⟩)] w fun e w' => ∃ v, e = .returned v ∧ TO w' w.heap.size v (imgT T) ∧ Below w.heap.size w w' := by
  have hnd := hM.nodup
  have q1 := theights_any base q m span jp T (by omega) w hM B
  have HMEM := Lib.hid (fun k (h : k ∈ sortZ (hts T)) => sortZ_mem.1 h)
  have hlen : (sortZ (hts T)).length ≤ 1000 := by rw [sortZ_len]; unfold hts; rw [List.length_map]; exact hT
  have HI : Hid (imgT T = imgL T (sortZ (hts T))) := Lib.hid rfl
  generalize imgT T = IT at *
  generalize sortZ (hts T) = Hs at *
  have HM := Lib.hid hM
  have HB0 := Lib.hid B
  have HSM := Lib.hid hsm
  have H0 := Lib.hid h0
  have HND := Lib.hid hnd
  clear hM B hsm h0 hnd
  go_enter Tryz.func21, Tryz.ntmps21
  go_wp2_with fail
  refine q1.mono ?_
  rintro e w1 ⟨v1, rfl, hz, hb⟩
  obtain ⟨za, zc, rfl⟩ := hz.form
  have HZ := Lib.hid hz.is
  have hs1 := hb.size
  have hb1 := hb
  clear q1 hz hb
  go_wp2_with fail
  go_loopw [3, 11] (fun s3 s11 wr => ∃ i : Nat, i ≤ Hs.length ∧ s11 = .int .i64 (i) ∧ TO wr w1.heap.size s3 (imgL T (Hs.take i)) ∧ Below w1.heap.size w1 wr) (fun _ s11 _ => Hs.length - (intOf s11).toNat)
  case atStart => exact ⟨0, by omega, rfl, TO.nil _ _, Below.refl _ _⟩
  case round =>
    obtain ⟨i, hi, rfl, hS, hbr1⟩ := hrel
    have hbr := hb1.trans (hbr1.mono hs1)
    by_cases hlt : i < Hs.length
    · obtain ⟨sa, sc, rfl⟩ := hS.form
      have hbd : 0 ≤ (i : Int) ∧ (i : Int) < (Hs.length : Int) := by omega
      obtain ⟨g, off, e1, hg, c1⟩ := ((HZ.out).keep hbr1).at' i hlt
      subst e1
      have hmem : Hs.getD i 0 ∈ Hs := by rw [List.getD_eq_getElem?_getD, List.getElem?_eq_getElem hlt]; exact List.getElem_mem _
      have hkin := HMEM.out _ hmem
      have HSN := Lib.hid (fun (t : Tr) (ht : lookK T (Hs.getD i 0) = some t) => imgL_snoc T Hs i hlt ht)
      generalize Hs.getD i 0 = k at *
      obtain ⟨t, ht⟩ := hts_mem hkin
      obtain ⟨l1, l2, l3, l4⟩ := HSM.out _ ht
      have hta := H0.out _ ht
      have HST := Lib.hid (HSN.out t (lookK_in HND.out ht))
      simp only at l1 l2 l3 l4 hta
      have hst : staleT span 0 t = false := by unfold staleT; rw [Bool.and_eq_false_iff]; right; rw [decide_eq_false_iff_not]; omega
      have q2 := tat_any base q m span jp T k 0 t ⟨l3, l4⟩ (by omega) (by omega) ht l1 l2 wr (HM.out.keep hbr) (HB0.out.keep hbr)
      rw [hst] at q2
      simp only [Bool.false_eq_true, ↓reduceIte] at q2
      have hil : (imgL T (Hs.take i)).length ≤ 1000 := by rw [imgL_len, List.length_take]; omega
      have HS := Lib.hid hS
      generalize imgL T (Hs.take i) = L at *
      clear hst hkin hmem ht HSN hS
      go_wp2_with fail
      refine q2.mono ?_
      rintro e w2 ⟨v2, rfl, ⟨sk, ms, rfl, r1, r2⟩, hb⟩
      obtain ⟨ka, kc, rfl⟩ := r1.form
      obtain ⟨ma, mc, rfl⟩ := r2.form
      have hb2 := hbr.trans (hb.mono hbr.size)
      have hs2 := hb.size
      have hsr := hbr1.size
      have hS2 := HS.out.keep hb
      have r3 := r1.low hsr
      have r4 := r2.low hsr
      clear q2 r1 r2
      go_wp2_with (first
        | (refine wpList_rowStore row_trust rfl rfl (.tmp 6) (.tmp 19) rfl rfl rfl (vs := [.int .i64 (t.head.height), .int .i64 (t.head.epoch), .int .i64 (t.head.view), .bool t.head.last, .string ⟨List.toArray (t.head.parent)⟩, .string ⟨List.toArray (t.head.state)⟩, .string ⟨List.toArray (t.head.receipts)⟩, .string ⟨List.toArray (t.head.txs)⟩, .string ⟨List.toArray (t.head.members)⟩, .string ⟨List.toArray (t.head.next)⟩, .slice ka t.head.skips.length kc, .slice ma t.set.length mc, .int .i64 (t.at_)]) rfl (by simp [Value.oneCell']) (us := [.int .i64 (0), .int .i64 (0), .int .i64 (0), .bool false, .string ⟨List.toArray ([])⟩, .string ⟨List.toArray ([])⟩, .string ⟨List.toArray ([])⟩, .string ⟨List.toArray ([])⟩, .string ⟨List.toArray ([])⟩, .string ⟨List.toArray ([])⟩, .slice none 0 0, .slice none 0 0, .int .i64 (0)]) rfl (Blk.new' (by simp)) ?_; intro w3 N3 m3; have hb3 := Below.mod (Below.allocS (Below.refl w2.heap.size w2) (.cells #[.int .i64 (0), .int .i64 (0), .int .i64 (0), .bool false, .string ⟨List.toArray ([])⟩, .string ⟨List.toArray ([])⟩, .string ⟨List.toArray ([])⟩, .string ⟨List.toArray ([])⟩, .string ⟨List.toArray ([])⟩, .string ⟨List.toArray ([])⟩, .slice none 0 0, .slice none 0 0, .int .i64 (0)] 27)) m3 (by simp) (by simp))
        | (refine wpList_rowLoad row_trust rfl (.tmp 6) rfl rfl (vs := [.int .i64 (t.head.height), .int .i64 (t.head.epoch), .int .i64 (t.head.view), .bool t.head.last, .string ⟨List.toArray (t.head.parent)⟩, .string ⟨List.toArray (t.head.state)⟩, .string ⟨List.toArray (t.head.receipts)⟩, .string ⟨List.toArray (t.head.txs)⟩, .string ⟨List.toArray (t.head.members)⟩, .string ⟨List.toArray (t.head.next)⟩, .slice ka t.head.skips.length kc, .slice ma t.set.length mc, .int .i64 (t.at_)]) rfl N3 ?_)
        | (at_builtin; refine wpList_appT rfl (.tmp 21) (.tmp 23) rfl w1.heap.size _ L rfl ((hS2.keep hb3).keep (Below.allocS (Below.refl _ _) _)) t (.slice ka t.head.skips.length kc) (.slice ma t.set.length mc) ((r3.keep hb3).keep (Below.allocS (Below.refl _ _) _)) ((r4.keep hb3).keep (Below.allocS (Below.refl _ _) _)) w3.heap.size rfl (Blk.new _ _ _) (by omega) (by have := hb3.size; simp; omega) ?_; intro v5 w5 hS5 hb5 hg5))
      rw [← HST.out] at hS5
      have hbx := (((hbr1.trans (hb.mono hsr)).trans (hb3.mono (by omega))).trans ((Below.allocS (Below.refl w3.heap.size w3) (.cells (tcs t (.slice ka t.head.skips.length kc) (.slice ma t.set.length mc)).toArray 27)).mono (by have := hb3.size; omega))).trans hb5
      exact ⟨⟨i + 1, by omega, by go_num, hS5, hbx⟩, by simp [intOf]; omega⟩
    · have hil : i = Hs.length := by omega
      subst hil
      rw [List.take_length, ← HI.out] at hS
      obtain ⟨sa, sc, rfl⟩ := hS.form
      go_wp2_with fail
      go_ret
      exact ⟨_, rfl, hS.low hs1, hbr⟩
end Go.Proofs.YthgjdaomcpinaaaGreatDoor

/- Lists of pairs of numbers ([][2]int), to be read; such an argument. -/
set_option linter.unusedVariables false
set_option linter.unusedSimpArgs false
set_option linter.unnecessarySimpa false
namespace Go.Proofs.YthgjdaomcpinaaaGreatDoor
open Go.ChangeShapes Go.WideShapes Go.ChangeAt Go.RowKit Pl

theorem row_two : RowT Tryz.prog 39 2 := RowT.mk' Tryz.underlying39 rfl (by kernel_rfl)
/-- v is a list of pairs of numbers. -/
def PSrc (w : World) (g o : Nat) (l : List (Int × Int)) : Prop := ∀ i x, l[i]? = some x → w.rangeAt g (o + i * 2) [.int .i64 (x.1), .int .i64 (x.2)]
def PS (w : World) (v : Value) (l : List (Int × Int)) : Prop :=
  ∃ a cap, v = .slice a l.length cap ∧ l.length ≤ cap ∧ cap ≤ maxLen ∧ (l ≠ [] → ∃ g off, a = some ⟨g, off, none⟩ ∧ g < w.heap.size ∧ PSrc w g off l)
theorem PS.form {w : World} {v : Value} {l : List (Int × Int)} (h : PS w v l) : ∃ a c, v = .slice a l.length c := by
  obtain ⟨a, c, e, _⟩ := h
  exact ⟨a, c, e⟩
theorem PS.small {w : World} {v : Value} {l : List (Int × Int)} (h : PS w v l) : l.length ≤ 9223372036854775807 := by
  obtain ⟨a, c, e, h1, h2, _⟩ := h
  unfold maxLen at h2
  omega
theorem PS.at {w : World} {a : Option Addr} {c : Nat} {l : List (Int × Int)} (h : PS w (.slice a l.length c) l) (i : Nat) (x : Int × Int) (hi : l[i]? = some x) :
    ∃ g off, a = some ⟨g, off, none⟩ ∧ g < w.heap.size ∧ w.rangeAt g (off + i * 2) [.int .i64 (x.1), .int .i64 (x.2)] := by
  obtain ⟨a', c', e, h1, h2, h4⟩ := h
  injection e with e _ _
  subst e
  obtain ⟨g, off, e, hg, hs⟩ := h4 (by intro e; subst e; simp at hi)
  exact ⟨g, off, e, hg, hs i x hi⟩
theorem ps_val {W : World} {v : Value} (h : Sh.Val W (.slice 2 (.pair (.int .i64) (.pair (.int .i64) .unit))) v) : ∃ l : List (Int × Int), PS W v l := by
  rcases (show _ ∨ _ from h) with h | ⟨a, len, cap, hv, hlc, hcm, hel⟩
  · obtain rfl : v = .slice none 0 0 := by simpa using h
    exact ⟨[], none, 0, rfl, Nat.le_refl _, by unfold maxLen; omega, fun h => absurd rfl h⟩
  · obtain rfl : v = .slice (some a) len cap := by simpa using hv
    rcases Nat.eq_zero_or_pos len with h0 | hpos
    · subst h0
      exact ⟨[], some a, cap, rfl, hlc, hcm, fun h => absurd rfl h⟩
    · obtain ⟨hs, hc⟩ := slice_cells (by decide) hpos hel
      have hf : ∀ i, ∃ x : Int × Int, i < len → W.cell? ⟨a.block, a.off + i * 2, none⟩ = some (.int .i64 (x.1)) ∧ W.cell? ⟨a.block, a.off + i * 2 + 1, none⟩ = some (.int .i64 (x.2)) := by
        intro i
        by_cases hi : i < len
        · obtain ⟨cs, ⟨x, y, rfl, ⟨s, rfl, _⟩, z, u, rfl, ⟨n, rfl, _⟩, hu⟩, _, hj⟩ := hc i hi
          have h0 := hj 0 (by decide)
          have h1 := hj 1 (by decide)
          refine ⟨(s, n), fun _ => ⟨?_, ?_⟩⟩
          · simpa using h0
          · simpa using h1
        · exact ⟨(0, 0), fun h => absurd h hi⟩
      obtain ⟨f, hf⟩ := Classical.axiomOfChoice hf
      obtain ⟨b, off, sp⟩ := a
      simp only at hs
      subst hs
      refine ⟨(List.range len).map f, some ⟨b, off, none⟩, cap, by simp, by simpa using hlc, hcm, fun _ => ⟨b, off, rfl, cell_lt (hf 0 hpos).1, fun i x hi => ?_⟩⟩
      have hi' : i < len := by have := (List.getElem?_eq_some_iff.1 hi).1; simpa using this
      have hx : x = f i := by
        rw [List.getElem?_map, List.getElem?_range hi'] at hi
        simpa using hi.symm
      subst hx
      obtain ⟨h0, h1⟩ := hf i hi'
      intro j u hj
      rcases (show j = 0 ∨ j = 1 by have := (List.getElem?_eq_some_iff.1 hj).1; simp at this; omega) with rfl | rfl
      · simp at hj; subst hj; exact h0
      · simp at hj; subst hj; exact h1
theorem wf_i64 {k : Int} (h : (Lit.int .i64 k).wf = true) : -9223372036854775808 ≤ k ∧ k ≤ 9223372036854775807 := by
  have h1 : IntKind.i64.min = -9223372036854775808 := by decide
  have h2 : IntKind.i64.max = 9223372036854775807 := by decide
  simpa only [Lit.wf, Bool.and_eq_true, decide_eq_true_eq, h1, h2] using h
theorem two_valT {W : World} {v : Value} (h : Sh.Val W (.pair (.int .i64) (.pair (.int .i64) .unit)) v) : ∃ x y : Int, v = .agg #[.int .i64 (x), .int .i64 (y)] ∧ (-9223372036854775808 ≤ x ∧ x ≤ 9223372036854775807) ∧ (-9223372036854775808 ≤ y ∧ y ≤ 9223372036854775807) := by
  obtain ⟨c0, rfl, _, _, rfl, ⟨k, rfl, hk⟩, _, y, rfl, ⟨k2, rfl, hk2⟩, hu⟩ := h
  obtain rfl : y = [] := hu
  exact ⟨k, k2, rfl, wf_i64 hk, wf_i64 hk2⟩
theorem int_valT {W : World} {v : Value} (h : Sh.Val W (.int .i64) v) : ∃ x : Int, v = .int .i64 (x) ∧ -9223372036854775808 ≤ x ∧ x ≤ 9223372036854775807 := by
  obtain ⟨k, hk, hw⟩ := h
  obtain rfl : v = .int .i64 (k) := by simpa using hk
  exact ⟨k, rfl, wf_i64 hw⟩
theorem topen_range (p : Value) (span : Int) (h0 : span < 1 ∨ 1099511627776 < span) (w : World) :
    Calls Tryz.prog 18 #[p, .int .i64 (span)] w fun e w' => e = .returned (.tuple #[.pointer none, .int .i64 (1)]) ∧ w' = w := by
  by_cases h1 : span < 1
  · have d0 : decide (span < 1) = true := by simpa using h1
    clear h0 h1
    go_enter Tryz.func18, Tryz.ntmps18
    go_wp2_with fail
    all_goals (go_ret2; exact ⟨rfl, rfl⟩)
  · have d0 : decide (span < 1) = false := by simpa using h1
    have d1 : decide (1099511627776 < span) = true := by simp; omega
    clear h0 h1
    go_enter Tryz.func18, Tryz.ntmps18
    go_wp2_with fail
    all_goals (go_ret2; exact ⟨rfl, rfl⟩)
end Go.Proofs.YthgjdaomcpinaaaGreatDoor

/- A number from 0 on, below n: the walk of Below. -/
set_option linter.unusedSimpArgs false
set_option linter.unusedVariables false
namespace Go.Proofs.YthgjdaomcpinaaaGreatDoor
open Go.RowKit

theorem tmod_small (x n : Int) (h : 0 < n) : -n < x.tmod n ∧ x.tmod n < n := by
  rw [Int.tmod_eq_emod]
  have h1 := Int.emod_nonneg x (Int.ne_of_gt h)
  have h2 := Int.emod_lt_of_pos x h
  split <;> omega
theorem tmod_twice (x n : Int) (h : 0 < n) : (x.tmod n + n).tmod n = x % n := by
  have hs := tmod_small x n h
  rw [Int.tmod_eq_emod_of_nonneg (by omega), Int.add_emod_right, Int.tmod_eq_emod]
  split
  · simp
  · rw [show (x % n - (n.natAbs : Int)) = x % n + n * (-1) from by omega, Int.add_mul_emod_self_left, Int.emod_emod]
/-- x % n as a number of ours. -/
def modN (x : Int) (n : Nat) : Nat := (x % (n : Int)).toNat
theorem modN_eq (x : Int) (n : Nat) (h : 0 < n) : ((modN x n : Nat) : Int) = x % (n : Int) := by
  unfold modN
  rw [Int.toNat_of_nonneg (Int.emod_nonneg x (by omega))]
theorem modN_lt (x : Int) (n : Nat) (h : 0 < n) : modN x n < n := by
  have := modN_eq x n h
  have h2 := Int.emod_lt_of_pos x (show (0 : Int) < (n : Int) from by omega)
  omega
set_option maxRecDepth 100000 in
theorem below_any (x : Int) (n : Nat) (h0 : 0 < n) (hn : n ≤ 1000000000) (w : World) :
    Calls Tryz.prog 20 #[.int .i64 (x), .int .i64 ((n : Int))] w fun e w' => e = .returned (.int .i64 ((modN x n : Int))) ∧ w' = w := by
  have h1 := tmod_small x n (by omega)
  have h2 := tmod_twice x n (by omega)
  rw [← modN_eq x n h0] at h2
  have z : ((n : Int) == 0) = false := by simp; omega
  have z2 : (n : Int) ≠ 0 := by omega
  have w1 : IntKind.i64.wrap (x.tmod n + n) = x.tmod n + n := by rw [IntKind.wrap_i64]; omega
  have hm := modN_lt x n h0
  have w2 : IntKind.i64.wrap (x.tmod n) = x.tmod n := by rw [IntKind.wrap_i64]; omega
  have w3 : IntKind.i64.wrap ((modN x n : Nat) : Int) = ((modN x n : Nat) : Int) := by rw [IntKind.wrap_i64]; omega
  go_enter Tryz.func20, Tryz.ntmps20
  go_wp2_with fail
  all_goals (go_ret; exact ⟨by simp [w1, w2, w3, h2], rfl⟩)
end Go.Proofs.YthgjdaomcpinaaaGreatDoor

/- What comes with a change: the law's walk of made; whether all is the same: alike. -/
set_option linter.unusedSimpArgs false
set_option linter.unusedVariables false
namespace Go.Proofs.YthgjdaomcpinaaaGreatDoor
open Go.RowKit Go.WideMaps Go.Maps Go.Sort Go.Shelf Pl

def madeT (l : List (Int × Int)) : List Tr := l.map (fun x => someT (modN x.1 8) (modN x.2 1000))
theorem made_snoc (l : List (Int × Int)) (i : Nat) (x : Int × Int) (h : l[i]? = some x) : madeT (l.take (i + 1)) = madeT (l.take i) ++ [someT (modN x.1 8) (modN x.2 1000)] := by
  obtain ⟨hi, e⟩ := List.getElem?_eq_some_iff.1 h
  unfold madeT
  rw [List.take_succ_eq_append_getElem hi, List.map_append, e]
  rfl
theorem made_len (l : List (Int × Int)) : (madeT l).length = l.length := by unfold madeT; rw [List.length_map]
theorem PS.keep {W w : World} {v : Value} {l : List (Int × Int)} (h : PS W v l) (hb : Below W.heap.size W w) : PS w v l := by
  obtain ⟨a, cap, h1, h2, h3, h4⟩ := h
  refine ⟨a, cap, h1, h2, h3, fun hn => ?_⟩
  obtain ⟨g, off, e, hg, hs⟩ := h4 hn
  exact ⟨g, off, e, Nat.lt_of_lt_of_le hg hb.size, fun i x hi => rangeAt_keep (hs i x hi) hg hb⟩
set_option maxRecDepth 100000 in
set_option maxHeartbeats 8000000 in
theorem tmade_any (vc vg : Value) (ga : Option Addr) (gl gc : Nat) (hvg : vg = .slice ga gl gc) (l : List (Int × Int)) (hl : l.length ≤ 100000) (w : World) (hk : KT w) (hv : PS w vc l) :
    Calls Tryz.prog 23 #[.agg #[vc, vg]] w fun e w' => ∃ v, e = .returned v ∧ TO w' w.heap.size v (madeT l) ∧ Below w.heap.size w w' := by
  obtain ⟨va, cap, rfl⟩ := hv.form
  have hls := hv.small
  have HV := Lib.hid hv
  have HK := Lib.hid hk
  subst hvg
  clear hv hk
  go_enter Tryz.func23, Tryz.ntmps23
  go_wp2_with fail
  go_loopw [3, 9] (fun s3 s9 wr => ∃ i : Nat, i ≤ l.length ∧ s9 = .int .i64 (i) ∧ TO wr w.heap.size s3 (madeT (l.take i)) ∧ Below w.heap.size w wr) (fun _ s9 _ => l.length - (intOf s9).toNat)
  case atStart => exact ⟨0, by omega, rfl, TO.nil _ _, Below.allocS (Below.refl _ _) _⟩
  case round =>
    obtain ⟨i, hi, rfl, hS, hbr⟩ := hrel
    by_cases hlt : i < l.length
    · have hbd : 0 ≤ (i : Int) ∧ (i : Int) < (l.length : Int) := by omega
      obtain ⟨⟨x1, x2⟩, hx⟩ : ∃ x, l[i]? = some x := ⟨l[i], List.getElem?_eq_getElem hlt⟩
      obtain ⟨g, off, rfl, hg, hR⟩ := HV.out.at i _ hx
      have hR2 := rangeAt_keep hR hg hbr
      simp only at hR2
      have hsn := made_snoc l i _ hx
      simp only at hsn
      obtain ⟨h, hh⟩ : ∃ h : Nat, h = modN x1 8 := ⟨_, rfl⟩
      obtain ⟨c, hc⟩ : ∃ c : Nat, c = modN x2 1000 := ⟨_, rfl⟩
      have hh9 : h < 8 := by rw [hh]; exact modN_lt x1 8 (by omega)
      have hc9 : c < 1000 := by rw [hc]; exact modN_lt x2 1000 (by omega)
      have e1 := fun W => below_any x1 8 (by omega) (by omega) W
      have e2 := fun W => below_any x2 1000 (by omega) (by omega) W
      rw [← hh] at e1 hsn
      rw [← hc] at e2 hsn
      have hsome := fun (W : World) (hk : KT W) => some_any (h : Int) (c : Int) W (by omega) (by omega) hk
      obtain ⟨t, ht⟩ : ∃ t, t = someT h c := ⟨_, rfl⟩
      rw [← ht] at hsome hsn
      have HSN := Lib.hid hsn
      have hLl : (madeT (l.take i)).length ≤ 100000 := by rw [made_len, List.length_take]; omega
      obtain ⟨sa, sc, rfl⟩ := hS.form
      generalize madeT (l.take i) = L at *
      clear hh hc ht hR hg hx hsn
      go_wp2_with (first | (refine wpList_rowLoadAt row_two rfl (.tmp 11) rfl rfl rfl hR2 ?_) | (refine wpList_rowStore row_two rfl rfl (.tmp 5) (.tmp 12) rfl rfl rfl (vs := [.int .i64 (x1), .int .i64 (x2)]) rfl (by simp [Value.oneCell']) (us := [.int .i64 (0), .int .i64 (0)]) rfl (Blk.new' (by simp)) ?_; intro w6 N6 m6))
      have hbn := Below.mod (Below.allocS (Below.refl wr.heap.size wr) (.cells #[.int .i64 (0), .int .i64 (0)] 39)) m6 (by simp) (by simp)
      have hb6 := hbr.trans (hbn.mono hbr.size)
      have hs6 := hbn.size
      have hsr := hbr.size
      have hS6 := hS.keep hbn
      have hown : ∀ k, (Value.slice sa L.length sc).ownBlock = some k → w.heap.size ≤ k ∧ k < wr.heap.size := fun k hk => by
        obtain ⟨cs, _, hr, _⟩ := hS
        exact row_ltO hr hk
      have HNB : Hid (wr.heap.size ∉ (Value.slice sa L.length sc).ownBlock.toList) := Lib.hid (fun h => by have := hown _ (Option.mem_toList.1 h); omega)
      have HLO : Hid (∀ x ∈ (Value.slice sa L.length sc).ownBlock.toList, w.heap.size ≤ x) := Lib.hid (fun x h => (hown x (Option.mem_toList.1 h)).1)
      clear hbn m6 hR2 hS hbr hown
      refine wpH_startM ((Value.slice sa L.length sc).ownBlock.toList) (by kernel_rfl) (fun hS => ?_)
      (refine wpH_pure 0 ?_ (oi := { dst := some 13, op := Op.move (Operand.tmp 3), type := 48, pos := "theorems.go:71", after := #[], guard := none }) rfl (by kernel_rfl) (by kernel_rfl) (by kernel_rfl) (by rfl) hS (fun _ _ _ h => h) ?_ ?_; rotate_left; focus (intro w; go_simp; try with_reducible rfl))
      try simp only [Act.put, List.setIfInBounds_toArray, List.set_cons_zero, List.set_cons_succ]
      (refine wpH_pure 1 ?_ (oi := { dst := some 14, op := Op.indexAddr 39 (Operand.tmp 5) (Operand.const (Value.int IntKind.i64 0)), type := 0, pos := "theorems.go:71", after := #[], guard := none }) rfl (by kernel_rfl) (by kernel_rfl) (by kernel_rfl) (by rfl) hS (fun _ _ _ h => h) ?_ ?_; rotate_left; focus (intro w; go_simp; try with_reducible rfl))
      try simp only [Act.put, List.setIfInBounds_toArray, List.set_cons_zero, List.set_cons_succ]
      refine wpH_load 2 (.int .i64 (x1)) (oi := { dst := some 15, op := Op.load 3 (Operand.tmp 14), type := 3, pos := "theorems.go:71", after := #[{ on := 1, ground := Ground.data }], guard := none }) rfl (by kernel_rfl) (by kernel_rfl) (by kernel_rfl) (by rfl) hS (fun _ _ _ h => h) (fun w hb2 => (by have c := (N6.mod hb2 HNB.out).cell 0; go_simp; try rfl)) ?_
      try simp only [Act.put, List.setIfInBounds_toArray, List.set_cons_zero, List.set_cons_succ]
      (refine wpH_pure 4 ?_ (oi := { dst := some 17, op := Op.indexAddr 39 (Operand.tmp 5) (Operand.const (Value.int IntKind.i64 1)), type := 0, pos := "theorems.go:71", after := #[], guard := none }) rfl (by kernel_rfl) (by kernel_rfl) (by kernel_rfl) (by rfl) hS (fun _ _ _ h => h) ?_ ?_; rotate_left; focus (intro w; go_simp; try with_reducible rfl))
      try simp only [Act.put, List.setIfInBounds_toArray, List.set_cons_zero, List.set_cons_succ]
      refine wpH_load 5 (.int .i64 (x2)) (oi := { dst := some 18, op := Op.load 3 (Operand.tmp 17), type := 3, pos := "theorems.go:71", after := #[{ on := 4, ground := Ground.data }], guard := none }) rfl (by kernel_rfl) (by kernel_rfl) (by kernel_rfl) (by rfl) hS (fun _ _ _ h => h) (fun w hb2 => (by have c := (N6.mod hb2 HNB.out).cell 1; go_simp; try rfl)) ?_
      try simp only [Act.put, List.setIfInBounds_toArray, List.set_cons_zero, List.set_cons_succ]
      refine wpH_call 3 (oi := { dst := some 16, op := Op.call { callee := Callee.value (Operand.func 20), args := #[Operand.tmp 15, Operand.const (Value.int IntKind.i64 8)], argTypes := #[3, 3] }, type := 3, pos := "theorems.go:71", after := #[{ on := 2, ground := Ground.data }], guard := none }) rfl (by kernel_rfl) (by rfl) (e1 _) ?_ ?_
      · (go_simp; try rfl)
      rintro e w' ⟨rfl, rfl⟩
      refine ⟨_, rfl, hS, ?_⟩
      try simp only [Act.put, List.setIfInBounds_toArray, List.set_cons_zero, List.set_cons_succ]
      refine wpH_call 6 (oi := { dst := some 19, op := Op.call { callee := Callee.value (Operand.func 20), args := #[Operand.tmp 18, Operand.const (Value.int IntKind.i64 1000)], argTypes := #[3, 3] }, type := 3, pos := "theorems.go:71", after := #[{ on := 5, ground := Ground.data }, { on := 3, ground := Ground.chain }], guard := none }) rfl (by kernel_rfl) (by rfl) (e2 _) ?_ ?_
      · (go_simp; try rfl)
      rintro e w' ⟨rfl, rfl⟩
      refine ⟨_, rfl, hS, ?_⟩
      try simp only [Act.put, List.setIfInBounds_toArray, List.set_cons_zero, List.set_cons_succ]
      refine wpH_call 7 (oi := { dst := some 20, op := Op.call { callee := Callee.value (Operand.func 28), args := #[Operand.tmp 16, Operand.tmp 19], argTypes := #[3, 3] }, type := 27, pos := "theorems.go:71", after := #[{ on := 3, ground := Ground.data }, { on := 6, ground := Ground.data }, { on := 6, ground := Ground.chain }], guard := none }) rfl (by kernel_rfl) (by rfl) (hsome _ (HK.out.keep (Below.mod hb6 hS (by omega) HLO.out))) ?_ ?_
      · (go_simp; try rfl)
      rintro e w' ⟨vt, rfl, ⟨sk, ms, rfl, r1, r2⟩, hbx⟩
      refine ⟨_, rfl, hS.trans (Mod.of_below hbx), ?_⟩
      replace hS := hS.trans (Mod.of_below hbx)
      obtain ⟨ka, kc, rfl⟩ := r1.form
      obtain ⟨ma, mc, rfl⟩ := r2.form
      have hbt := (Below.refl w6.heap.size w6).drew.trans hbx
      have hS7 := hS6.keep hbt
      have hb7 := hb6.trans (hbt.mono (by omega))
      have hs7 := hbt.size
      have r3 := r1.low (show w.heap.size ≤ _ from by have := hb6.size; simp only [World.drew] at *; omega)
      have r4 := r2.low (show w.heap.size ≤ _ from by have := hb6.size; simp only [World.drew] at *; omega)
      try simp only [Act.put, List.setIfInBounds_toArray, List.set_cons_zero, List.set_cons_succ]
      refine wpH_op 8 (oi := { dst := some 21, op := Op.buildSlice 48 1 #[(0, Operand.tmp 20)], type := 48, pos := "theorems.go:71", after := #[{ on := 7, ground := Ground.data }], guard := none }) rfl (by kernel_rfl) (by rfl) ?_
      refine wp_newK 27 #[.int .i64 (t.head.height), .int .i64 (t.head.epoch), .int .i64 (t.head.view), .bool t.head.last, .string ⟨List.toArray (t.head.parent)⟩, .string ⟨List.toArray (t.head.state)⟩, .string ⟨List.toArray (t.head.receipts)⟩, .string ⟨List.toArray (t.head.txs)⟩, .string ⟨List.toArray (t.head.members)⟩, .string ⟨List.toArray (t.head.next)⟩, .slice ka t.head.skips.length kc, .slice ma t.set.length mc, .int .i64 (t.at_)] (fun k => .slice (some ⟨k, 0, none⟩) 1 1) (fun w => by go_simp; try rfl) (fun k48 W8 hk48 hh48 hlt48 hbk48 => ?_)
      refine hold_and (hS.trans (Mod.of_below hbk48)) (fun hS => ?_)
      have hS8 := hS7.keep hbk48
      have hb8 := hb7.trans (hbk48.mono (by have := hb7.size; omega))
      have hs8 := hbk48.size
      have r5 := r3.keep hbk48
      have r6 := r4.keep hbk48
      try simp only [Act.put, List.setIfInBounds_toArray, List.set_cons_zero, List.set_cons_succ]
      refine wpH_op 9 (oi := { dst := some 22, op := Op.call { callee := Callee.builtin Builtin.append, args := #[Operand.tmp 13, Operand.tmp 21], argTypes := #[48, 48] }, type := 48, pos := "theorems.go:71", after := #[{ on := 0, ground := Ground.data }, { on := 8, ground := Ground.data }, { on := 7, ground := Ground.chain }], guard := none }) rfl (by kernel_rfl) (by rfl) ?_
      refine wp_appT (.tmp 13) (.tmp 21) rfl w.heap.size _ L rfl hS8 t (.slice ka t.head.skips.length kc) (.slice ma t.set.length mc) r5 r6 k48 rfl (Blk.of_heap hh48 hlt48) (by omega) hb8.size (fun v9 w9 hS9 hb9 hg9 => ?_)
      refine hold_and (hS.trans (grown_modO hg9)) (fun hS => ?_)
      have hbz := hb8.trans hb9
      try simp only [Act.put, List.setIfInBounds_toArray, List.set_cons_zero, List.set_cons_succ]
      (refine wpH_pure 10 ?_ (oi := { dst := some 3, op := Op.assign (Operand.tmp 22), type := 48, pos := "theorems.go:71", after := #[{ on := 9, ground := Ground.data }, { on := 9, ground := Ground.chain }, { on := 0, ground := Ground.phase }, { on := 1, ground := Ground.phase }, { on := 2, ground := Ground.phase }, { on := 3, ground := Ground.phase }, { on := 4, ground := Ground.phase }, { on := 5, ground := Ground.phase }, { on := 6, ground := Ground.phase }, { on := 7, ground := Ground.phase }, { on := 8, ground := Ground.phase }, { on := 9, ground := Ground.phase }], guard := none }) rfl (by kernel_rfl) (by kernel_rfl) (by kernel_rfl) (by rfl) hS (fun _ _ _ h => h) ?_ ?_; rotate_left; focus (intro w; go_simp; try with_reducible rfl))
      try simp only [Act.put, List.setIfInBounds_toArray, List.set_cons_zero, List.set_cons_succ]
      refine wpAnyH_done (by kernel_rfl) ?_ _
      go_wp2_with fail
      exact ⟨⟨i + 1, by omega, by go_num, by rw [HSN.out]; exact hS9, hbz⟩, by simp [intOf]; omega⟩
    · have hil : i = l.length := by omega
      subst hil
      rw [List.take_length] at hS
      obtain ⟨sa, sc, rfl⟩ := hS.form
      go_wp2_with fail
      go_ret
      exact ⟨_, rfl, hS, hbr⟩
end Go.Proofs.YthgjdaomcpinaaaGreatDoor
