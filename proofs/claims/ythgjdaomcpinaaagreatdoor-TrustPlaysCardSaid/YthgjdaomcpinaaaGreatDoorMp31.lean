/- TAv, RFind. -/
import Derived.Test.YthgjdaomcpinaaaGreatDoorMp29
set_option linter.unnecessarySimpa false
set_option linter.unusedSimpArgs false
set_option linter.unusedVariables false
set_option maxRecDepth 100000
set_option maxHeartbeats 32000000
namespace Go.Proofs.YthgjdaomcpinaaaGreatDoor
open Go.RowKit Go.WideMaps Go.Maps Go.Sort Go.Shelf Pl
def SSA (w : World) (av : List Nat) (v : Value) (l : List Bs) : Prop :=
 ∃ a cap, v = .slice a l.length cap ∧ l.length ≤ cap ∧ cap ≤ maxLen ∧ (l ≠ [] → ∃ g off, a = some ⟨g, off, none⟩ ∧ g < w.heap.size ∧ g ∉ av ∧ SSrc w g off l)
def MSA (w : World) (av : List Nat) (v : Value) (l : List (Bs × Int)) : Prop :=
 ∃ a cap, v = .slice a l.length cap ∧ l.length ≤ cap ∧ cap ≤ maxLen ∧ (l ≠ [] → ∃ g off, a = some ⟨g, off, none⟩ ∧ g < w.heap.size ∧ g ∉ av ∧ MSrc w g off l)
theorem SSA.ss {w : World} {av : List Nat} {v : Value} {l : List Bs} (h : SSA w av v l) : SS w v l := by
 obtain ⟨a, c, h1, h2, h3, h4⟩ := h
 refine ⟨a, c, h1, h2, h3, fun hn => ?_⟩
 obtain ⟨g, off, e, hg, _, hs⟩ := h4 hn
 exact ⟨g, off, e, hg, hs⟩
theorem MSA.ms {w : World} {av : List Nat} {v : Value} {l : List (Bs × Int)} (h : MSA w av v l) : MS w v l := by
 obtain ⟨a, c, h1, h2, h3, h4⟩ := h
 refine ⟨a, c, h1, h2, h3, fun hn => ?_⟩
 obtain ⟨g, off, e, hg, _, hs⟩ := h4 hn
 exact ⟨g, off, e, hg, hs⟩
theorem SSA.of {w : World} {av : List Nat} {v : Value} {l : List Bs} (h : SS w v l) (ha : ∀ x ∈ av, w.heap.size ≤ x) : SSA w av v l := by
 obtain ⟨a, c, h1, h2, h3, h4⟩ := h
 refine ⟨a, c, h1, h2, h3, fun hn => ?_⟩
 obtain ⟨g, off, e, hg, hs⟩ := h4 hn
 exact ⟨g, off, e, hg, fun hi => by have := ha g hi; omega, hs⟩
theorem MSA.of {w : World} {av : List Nat} {v : Value} {l : List (Bs × Int)} (h : MS w v l) (ha : ∀ x ∈ av, w.heap.size ≤ x) : MSA w av v l := by
 obtain ⟨a, c, h1, h2, h3, h4⟩ := h
 refine ⟨a, c, h1, h2, h3, fun hn => ?_⟩
 obtain ⟨g, off, e, hg, hs⟩ := h4 hn
 exact ⟨g, off, e, hg, fun hi => by have := ha g hi; omega, hs⟩
theorem SSA.row {w : World} {av : List Nat} {base : Nat} {v : Value} {l : List Bs} (h : SRow w base v l) (ha : ∀ x ∈ av, x < base) : SSA w av v l := by
 rcases h.cells with ⟨rfl, rfl⟩ | ⟨g, cap, rfl, h2, h3, h4, h5, h6, h7⟩
 ·exact ⟨none, 0, rfl, Nat.le_refl _, by unfold maxLen; omega, fun h => absurd rfl h⟩
 ·exact ⟨_, cap, rfl, h4, h5, fun _ => ⟨g, 0, rfl, h3, fun hi => by have := ha g hi; omega, fun i hi => by rw [Nat.zero_add]; exact h6 i hi⟩⟩
theorem MSA.row {w : World} {av : List Nat} {base : Nat} {v : Value} {l : List (Bs × Int)} (h : MRow w base v l) (ha : ∀ x ∈ av, x < base) : MSA w av v l := by
 rcases h.cells with ⟨rfl, rfl⟩ | ⟨g, cap, rfl, h2, h3, h4, h5, h6, h7⟩
 ·exact ⟨none, 0, rfl, Nat.le_refl _, by unfold maxLen; omega, fun h => absurd rfl h⟩
 ·exact ⟨_, cap, rfl, h4, h5, fun _ => ⟨g, 0, rfl, h3, fun hi => by have := ha g hi; omega, h6⟩⟩
theorem mod_cell {w w' : World} {m : List Nat} {g o : Nat} (hm : Mod m w w') (hg : g < w.heap.size) (hn : g ∉ m) : w'.cell? ⟨g, o, none⟩ = w.cell? ⟨g, o, none⟩ := World.cell?_of_block (a := ⟨g, o, none⟩) (hm.block g hg hn)
theorem SSA.modl {w w' : World} {av m : List Nat} {v : Value} {l : List Bs} (h : SSA w av v l) (hm : Mod m w w') (hs : ∀ x ∈ m, x ∈ av ∨ w.heap.size ≤ x) : SSA w' av v l := by
 obtain ⟨a, c, h1, h2, h3, h4⟩ := h
 refine ⟨a, c, h1, h2, h3, fun hn => ?_⟩
 obtain ⟨g, off, e, hg, hna, hsr⟩ := h4 hn
 have hnm : g ∉ m := fun hi => (hs g hi).elim hna (by omega)
 exact ⟨g, off, e, Nat.lt_of_lt_of_le hg hm.size, hna, fun i hi => (mod_cell hm hg hnm).trans (hsr i hi)⟩
theorem MSA.modl {w w' : World} {av m : List Nat} {v : Value} {l : List (Bs × Int)} (h : MSA w av v l) (hm : Mod m w w') (hs : ∀ x ∈ m, x ∈ av ∨ w.heap.size ≤ x) : MSA w' av v l := by
 obtain ⟨a, c, h1, h2, h3, h4⟩ := h
 refine ⟨a, c, h1, h2, h3, fun hn => ?_⟩
 obtain ⟨g, off, e, hg, hna, hsr⟩ := h4 hn
 have hnm : g ∉ m := fun hi => (hs g hi).elim hna (by omega)
 exact ⟨g, off, e, Nat.lt_of_lt_of_le hg hm.size, hna, fun i hi => ⟨(mod_cell hm hg hnm).trans (hsr i hi).1, (mod_cell hm hg hnm).trans (hsr i hi).2⟩⟩
theorem SSA.sub {w : World} {av bv : List Nat} {v : Value} {l : List Bs} (h : SSA w av v l) (hs : ∀ x ∈ bv, x ∈ av ∨ w.heap.size ≤ x) : SSA w bv v l := by
 obtain ⟨a, c, h1, h2, h3, h4⟩ := h
 refine ⟨a, c, h1, h2, h3, fun hn => ?_⟩
 obtain ⟨g, off, e, hg, hna, hsr⟩ := h4 hn
 exact ⟨g, off, e, hg, fun hi => (hs g hi).elim hna (by omega), hsr⟩
theorem MSA.sub {w : World} {av bv : List Nat} {v : Value} {l : List (Bs × Int)} (h : MSA w av v l) (hs : ∀ x ∈ bv, x ∈ av ∨ w.heap.size ≤ x) : MSA w bv v l := by
 obtain ⟨a, c, h1, h2, h3, h4⟩ := h
 refine ⟨a, c, h1, h2, h3, fun hn => ?_⟩
 obtain ⟨g, off, e, hg, hna, hsr⟩ := h4 hn
 exact ⟨g, off, e, hg, fun hi => (hs g hi).elim hna (by omega), hsr⟩
structure ElA (w : World) (av : List Nat) (x : Tr × Value × Value) : Prop where
 ss : SSA w av x.2.1 x.1.head.skips
 ms : MSA w av x.2.2 x.1.set
 p1 : PlainS x.2.1
 p2 : PlainS x.2.2
theorem ElA.modl {w w' : World} {av m : List Nat} {x : Tr × Value × Value} (h : ElA w av x) (hm : Mod m w w') (hs : ∀ x ∈ m, x ∈ av ∨ w.heap.size ≤ x) : ElA w' av x := ⟨h.ss.modl hm hs, h.ms.modl hm hs, h.p1, h.p2⟩
theorem ElA.keep {w w' : World} {av : List Nat} {x : Tr × Value × Value} (h : ElA w av x) (hb : Below w.heap.size w w') : ElA w' av x := h.modl (m := []) (Mod.of_below hb) (by simp)
theorem ElA.sub {w : World} {av bv : List Nat} {x : Tr × Value × Value} (h : ElA w av x) (hs : ∀ x ∈ bv, x ∈ av ∨ w.heap.size ≤ x) : ElA w bv x := ⟨h.ss.sub hs, h.ms.sub hs, h.p1, h.p2⟩
theorem ElA.one {w : World} {av : List Nat} {x : Tr × Value × Value} (h : ElA w av x) : ∀ u ∈ tcsX x, u.oneCell' = true := by
 obtain ⟨ka, kc, h1, _⟩ := h.ss
 obtain ⟨ma, mc, h2, _⟩ := h.ms
 exact tcs_one x.1 h1 h2
def CsAt (w : World) (g o : Nat) (cs : List (Tr × Value × Value)) : Prop := ∀ i x, cs[i]? = some x → w.rangeAt g (o + i * 13) (tcsX x)
def TLC (w : World) (av : List Nat) (v : Value) (cs : List (Tr × Value × Value)) : Prop :=
 (∃ a cap, v = .slice a cs.length cap ∧ cs.length ≤ cap ∧ cap ≤ maxLen ∧ (cs ≠ [] → ∃ g off, a = some ⟨g, off, none⟩ ∧ g < w.heap.size ∧ g ∉ av ∧ CsAt w g off cs)) ∧ ∀ x ∈ cs, ElA w av x
def TLA (w : World) (av : List Nat) (v : Value) (l : List Tr) : Prop := ∃ cs, cs.map (·.1) = l ∧ TLC w av v cs
theorem TLC.modl {w w' : World} {av m : List Nat} {v : Value} {cs : List (Tr × Value × Value)} (h : TLC w av v cs) (hm : Mod m w w') (hs : ∀ x ∈ m, x ∈ av ∨ w.heap.size ≤ x) : TLC w' av v cs := by
 obtain ⟨⟨a, c, h1, h2, h3, h4⟩, h5⟩ := h
 refine ⟨⟨a, c, h1, h2, h3, fun hn => ?_⟩, fun x hx => (h5 x hx).modl hm hs⟩
 obtain ⟨g, off, e, hg, hna, hsr⟩ := h4 hn
 have hnm : g ∉ m := fun hi => (hs g hi).elim hna (by omega)
 exact ⟨g, off, e, Nat.lt_of_lt_of_le hg hm.size, hna, fun i x hi j u hj => (mod_cell hm hg hnm).trans (hsr i x hi j u hj)⟩
theorem TLA.modl {w w' : World} {av m : List Nat} {v : Value} {l : List Tr} (h : TLA w av v l) (hm : Mod m w w') (hs : ∀ x ∈ m, x ∈ av ∨ w.heap.size ≤ x) : TLA w' av v l := by
 obtain ⟨cs, h1, h2⟩ := h
 exact ⟨cs, h1, h2.modl hm hs⟩
theorem TLA.keep {w w' : World} {av : List Nat} {v : Value} {l : List Tr} (h : TLA w av v l) (hb : Below w.heap.size w w') : TLA w' av v l := h.modl (m := []) (Mod.of_below hb) (by simp)
theorem TLA.sub {w : World} {av bv : List Nat} {v : Value} {l : List Tr} (h : TLA w av v l) (hs : ∀ x ∈ bv, x ∈ av ∨ w.heap.size ≤ x) : TLA w bv v l := by
 obtain ⟨cs, h1, ⟨a, c, h2, h3, h4, h5⟩, h6⟩ := h
 refine ⟨cs, h1, ⟨a, c, h2, h3, h4, fun hn => ?_⟩, fun x hx => (h6 x hx).sub hs⟩
 obtain ⟨g, off, e, hg, hna, hsr⟩ := h5 hn
 exact ⟨g, off, e, hg, fun hi => (hs g hi).elim hna (by omega), hsr⟩
theorem TLA.nil (w : World) (av : List Nat) : TLA w av (.slice none 0 0) [] := ⟨[], rfl, ⟨none, 0, rfl, Nat.le_refl _, by unfold maxLen; omega, fun h => absurd rfl h⟩, fun x hx => by cases hx⟩
theorem TLA.form {w : World} {av : List Nat} {v : Value} {l : List Tr} (h : TLA w av v l) : ∃ a c, v = .slice a l.length c := by
 obtain ⟨cs, h1, ⟨a, c, h2, _⟩, _⟩ := h
 exact ⟨a, c, by rw [h2, ← h1, List.length_map]⟩
theorem TLA.small {w : World} {av : List Nat} {v : Value} {l : List Tr} (h : TLA w av v l) : l.length ≤ 9223372036854775807 := by
 obtain ⟨cs, h1, ⟨a, c, h2, h3, h4, _⟩, _⟩ := h
 rw [← h1, List.length_map]
 unfold maxLen at h4
 omega
theorem TLA.at {w : World} {av : List Nat} {a : Option Addr} {c : Nat} {l : List Tr} (h : TLA w av (.slice a l.length c) l) (i : Nat) (t : Tr) (hi : l[i]? = some t) :
  ∃ g off sk ms, a = some ⟨g, off, none⟩ ∧ g < w.heap.size ∧ w.rangeAt g (off + i * 13) (tcs t sk ms) ∧ ElA w av (t, sk, ms) := by
 obtain ⟨cs, h1, ⟨a', c', h2, h3, h4, h5⟩, h6⟩ := h
 injection h2 with h2 _ _
 subst h2
 rw [← h1, List.getElem?_map] at hi
 obtain ⟨⟨t', sk, ms⟩, hx, rfl⟩ := Option.map_eq_some_iff.1 hi
 obtain ⟨g, off, e, hg, hna, hsr⟩ := h5 (by intro e; subst e; simp at hx)
 exact ⟨g, off, sk, ms, e, hg, hsr i _ hx, h6 _ (List.mem_of_getElem? hx)⟩
theorem TLA.tl {w : World} {av : List Nat} {v : Value} {l : List Tr} (h : TLA w av v l) : TL w v l := by
 obtain ⟨cs, h1, ⟨a, c, h2, h3, h4, h5⟩, h6⟩ := h
 subst h1
 refine ⟨a, c, by rw [h2, List.length_map], by rw [List.length_map]; exact h3, h4, fun hn => ?_⟩
 obtain ⟨g, off, e, hg, hna, hsr⟩ := h5 (by intro e; subst e; exact hn rfl)
 refine ⟨g, off, e, hg, fun i t hi => ?_⟩
 rw [List.getElem?_map] at hi
 obtain ⟨⟨t', sk, ms⟩, hx, rfl⟩ := Option.map_eq_some_iff.1 hi
 have hE := h6 _ (List.mem_of_getElem? hx)
 exact ⟨sk, ms, hsr i _ hx, hE.ss.ss, hE.ms.ms, hE.p1, hE.p2⟩
theorem TLA.of {w : World} {av : List Nat} {v : Value} {l : List Tr} (h : TL w v l) (ha : ∀ x ∈ av, w.heap.size ≤ x) : TLA w av v l := by
 obtain ⟨a, c, e, h1, h2, h3⟩ := h
 have hf : ∀ i, ∃ x : Tr × Value × Value, ∀ t, l[i]? = some t → x.1 = t ∧ ElA w av x ∧ ∀ g off, a = some ⟨g, off, none⟩ → w.rangeAt g (off + i * 13) (tcsX x) := by
  intro i
  cases hi : l[i]? with
  | none => exact ⟨(trZ, .bool false, .bool false), fun t ht => by cases ht⟩
  | some t =>
   obtain ⟨g, off, ea, hg, hs⟩ := h3 (by intro e; subst e; simp at hi)
   obtain ⟨sk, ms, k1, k2, k3, k4, k5⟩ := hs i t hi
   refine ⟨(t, sk, ms), fun t' ht => ?_⟩
   injection ht with ht
   subst ht
   refine ⟨rfl, ⟨SSA.of k2 ha, MSA.of k3 ha, k4, k5⟩, fun g' off' eg => ?_⟩
   rw [ea] at eg
   injection eg with eg
   injection eg with e1 e2
   subst e1 e2
   exact k1
 obtain ⟨f, hf⟩ := Classical.axiomOfChoice hf
 have hget : ∀ i x, ((List.range l.length).map f)[i]? = some x → ∃ t, l[i]? = some t ∧ x = f i := by
  intro i x hx
  have hil : i < l.length := by have := (List.getElem?_eq_some_iff.1 hx).1; simpa using this
  rw [List.getElem?_map, List.getElem?_range hil] at hx
  exact ⟨l[i], List.getElem?_eq_getElem hil, by simpa using hx.symm⟩
 refine ⟨(List.range l.length).map f, ?_, ⟨a, c, by rw [List.length_map, List.length_range]; exact e, by rw [List.length_map, List.length_range]; exact h1, h2, fun hn => ?_⟩, fun x hx => ?_⟩
 ·apply List.ext_getElem?
  intro i
  rw [List.map_map, List.getElem?_map]
  by_cases hil : i < l.length
  ·rw [List.getElem?_range hil, List.getElem?_eq_getElem hil]
   simp only [Option.map_some, Function.comp]
   rw [(hf i l[i] (List.getElem?_eq_getElem hil)).1]
  ·rw [List.getElem?_eq_none (by simp; omega), List.getElem?_eq_none (by omega)]
   rfl
 ·have hl : l ≠ [] := by
   intro e2
   subst e2
   exact hn rfl
  obtain ⟨g, off, ea, hg, hs⟩ := h3 hl
  refine ⟨g, off, ea, hg, fun hi => by have := ha g hi; omega, fun i x hx => ?_⟩
  obtain ⟨t, ht, rfl⟩ := hget i x hx
  exact (hf i t ht).2.2 g off ea
 ·obtain ⟨i, hi⟩ := List.mem_iff_getElem?.1 hx
  obtain ⟨t, ht, rfl⟩ := hget i x hi
  exact (hf i t ht).2.1
section
variable {ops : Array Oper} {o : Oper} {rest : List Oper} {a : Act} {w : World} {Q : Exit → Act → World → Prop}
theorem wpList_appTs (hgd : o.guard = none) (s x : Operand)
  (ho : o.op = .call { callee := .builtin .append, args := #[s, x], argTypes := #[48, 48] })
  (base : Nat) (v : Value) (cs ns : List (Tr × Value × Value)) (hs : a.eval s = v) (hown : w.ownsRow base 27 13 v cs.length (cs.flatMap tcsX))
  (ad : Option Addr) (c : Nat) (hx : a.eval x = .slice ad ns.length c) (hsrc : ns ≠ [] → ∃ g off, ad = some ⟨g, off, none⟩ ∧ CsAt w g off ns) (hone : ∀ y ∈ ns, ∀ u ∈ tcsX y, u.oneCell' = true)
  (hlen : cs.length + ns.length ≤ 1000000) (hbase : base ≤ w.heap.size)
  (h : ∀ v' w', w'.ownsRow base 27 13 v' (cs.length + ns.length) ((cs ++ ns).flatMap tcsX) → Below base w w' → wpList Tryz.prog ops Q rest (a.put o.dst v') w') : wpList Tryz.prog ops Q (o :: rest) a w := by
 obtain ⟨i0, hi, hz0, hz1, hz2⟩ := info_parts infoTr
 by_cases hn : ns = []
 ·subst hn
  obtain ⟨va, vc, hv⟩ := row_formO hown
  have hle : cs.length ≤ vc := by
   rcases row_openO hown with ⟨e, e2⟩ | ⟨g, cap, e, _, _, h4, _⟩
   ·omega
   ·rw [hv] at e; injection e with _ _ e; subst e; exact h4
  have hS : Src Tryz.prog i0.size 48 (.slice ad 0 c) 0 [] w := by
   cases ad with
   | none => exact Src.ofNil w Tryz.underlying48 c
   | some ad => exact Src.ofSlice w Tryz.underlying48 ad 0 c [] (by simp) (fun j u h => by simp at h) (fun _ h => by cases h)
  have hr := run_append_nothing (P := Tryz.prog) w 48 48 o.type 27 i0 Tryz.underlying48 hi va cs.length vc hle _ hS
  refine wpList_plain hgd fun K hK => ?_
  unfold Oper.wp execOp
  simp only [ho, resolve, invoke, builtin, Sem.run_bind, Sem.run_pure, Result.andThen_ok, List.map_toArray, List.map_cons, List.map_nil, hs, hx, hv, hr, List.length_nil]
  exact hK _ _ (h _ w (by rw [List.append_nil, List.length_nil, Nat.add_zero, ← hv]; exact hown) (Below.refl _ _))
 ·obtain ⟨g, off, rfl, hc⟩ := hsrc hn
  have hnl : (ns.flatMap tcsX).length = ns.length * 13 := tcsX_all ns
  obtain ⟨v', w', hr, k2, k3, _, k5⟩ := run_append_own_at (P := Tryz.prog) w base 48 o.type 27 i0 nilT 13 184 Tryz.underlying48 hi hz0 hz1 hz2 rfl (by decide) v cs.length (cs.flatMap tcsX) hown ⟨g, off, none⟩ ns.length c (ns.flatMap tcsX) (by rw [hnl])
   (fun j y hj => by
    have hjl : j < ns.length * 13 := by rw [← hnl]; exact (List.getElem?_eq_some_iff.1 hj).1
    have hi : j / 13 < ns.length := by omega
    have hx : ns[j / 13]? = some ns[j / 13] := List.getElem?_eq_getElem hi
    have h1 := tcsX_at ns (j / 13) (j % 13) _ hx (by omega)
    rw [show j / 13 * 13 + j % 13 = j from by omega, hj] at h1
    have h2 := hc (j / 13) _ hx (j % 13) y h1.symm
    rw [Addr.add_lit, show off + j = off + j / 13 * 13 + j % 13 from by omega]
    exact h2) (fun u hu => by
    obtain ⟨y, hy, hu⟩ := List.mem_flatMap.1 hu
    exact hone y hy u hu) (by unfold maxLen; omega) (by omega) hbase
  refine wpList_plain hgd fun K hK => ?_
  unfold Oper.wp execOp
  simp only [ho, resolve, invoke, builtin, Sem.run_bind, Sem.run_pure, Result.andThen_ok, List.map_toArray, List.map_cons, List.map_nil, hs, hx, hr]
  refine hK _ _ (h v' w' ?_ (grown_below k3 hbase (fun k hk => (row_ltO hown hk).1)))
  rw [List.flatMap_append]
  exact k2
end
theorem TLA.made {w0 w : World} {av : List Nat} {base : Nat} {v : Value} {cs : List (Tr × Value × Value)} (hr : w.ownsRow base 27 13 v cs.length (cs.flatMap tcsX)) (he : ∀ x ∈ cs, ElA w0 av x) (hb : Below w0.heap.size w0 w) (ha : ∀ x ∈ av, x < base) : TLA w av v (cs.map (·.1)) := by
 refine ⟨cs, rfl, ?_, fun x hx => (he x hx).keep hb⟩
 rcases row_openO hr with ⟨e, h0⟩ | ⟨g, cap, e, k1, k2, k3, k4, k5, k6⟩
 ·exact ⟨none, 0, by rw [h0]; exact e, by omega, by unfold maxLen; omega, fun h => absurd (List.length_eq_zero_iff.1 h0) h⟩
 ·refine ⟨_, cap, e, k3, k4, fun _ => ⟨g, 0, rfl, k2, fun hi => by have := ha g hi; omega, fun i x hx j u hj => ?_⟩⟩
  have hil := (List.getElem?_eq_some_iff.1 hx).1
  have hj13 : j < 13 := by have := (List.getElem?_eq_some_iff.1 hj).1; simpa [tcsX, tcs] using this
  rw [Nat.zero_add, k5 (i * 13 + j) (by omega), tcsX_at cs i j x hx hj13]
  exact hj
end Go.Proofs.YthgjdaomcpinaaaGreatDoor
namespace Go.Proofs.YthgjdaomcpinaaaGreatDoor
open Go.RowKit Go.WideMaps Go.Maps Go.Sort Go.Shelf Pl
section
variable {ops : Array Oper} {o : Oper} {rest : List Oper} {a : Act} {w : World} {Q : Exit → Act → World → Prop}
theorem wpList_appTk (hgd : o.guard = none) (s x : Operand)
  (ho : o.op = .call { callee := .builtin .append, args := #[s, x], argTypes := #[48, 48] })
  (base : Nat) (v : Value) (cs ns : List (Tr × Value × Value)) (j m k : Nat) (hj : cs.length = j) (hm : ns.length = m) (hk : j + m = k) (hs : a.eval s = v) (hown : w.ownsRow base 27 13 v j (cs.flatMap tcsX))
  (ad : Option Addr) (c : Nat) (hx : a.eval x = .slice ad m c) (hsrc : ns ≠ [] → ∃ g off, ad = some ⟨g, off, none⟩ ∧ CsAt w g off ns) (hone : ∀ y ∈ ns, ∀ u ∈ tcsX y, u.oneCell' = true)
  (hlen : k ≤ 1000000) (hbase : base ≤ w.heap.size)
  (h : ∀ a' c' w', w'.ownsRow base 27 13 (.slice a' k c') k ((cs ++ ns).flatMap tcsX) → Below base w w' → wpList Tryz.prog ops Q rest (a.put o.dst (.slice a' k c')) w') : wpList Tryz.prog ops Q (o :: rest) a w := by
 subst hj hm hk
 refine wpList_appTs hgd s x ho base v cs ns hs hown ad c hx hsrc hone hlen hbase (fun v' w' h1 h2 => ?_)
 obtain ⟨a', c', rfl⟩ := row_formO h1
 exact h a' c' w' h1 h2
theorem wpList_appT1 (hgd : o.guard = none) (s x : Operand)
  (ho : o.op = .call { callee := .builtin .append, args := #[s, x], argTypes := #[48, 48] })
  (base : Nat) (v : Value) (cs : List (Tr × Value × Value)) (j : Nat) (y : Tr × Value × Value) (hs : a.eval s = v) (hown : w.ownsRow base 27 13 v j (cs.flatMap tcsX))
  (q : Nat) (hx : a.eval x = .slice (some ⟨q, 0, none⟩) 1 1) (hq : Blk w q (tcsX y).toArray) (hone : ∀ u ∈ tcsX y, u.oneCell' = true)
  (hlen : j ≤ 1000000) (hbase : base ≤ w.heap.size)
  (h : ∀ a' c' w', w'.ownsRow base 27 13 (.slice a' (j + 1) c') (j + 1) ((cs ++ [y]).flatMap tcsX) → Below base w w' → wpList Tryz.prog ops Q rest (a.put o.dst (.slice a' (j + 1) c')) w') : wpList Tryz.prog ops Q (o :: rest) a w := by
 refine wpList_appG hgd s x 48 27 nilT 13 184 Tryz.underlying48 infoTr rfl (by decide) (by decide) ho base j v (cs.flatMap tcsX) (tcsX y) hs hown rfl q hx (fun i u hi => by rw [hq.cell i]; simpa using hi) hone hlen hbase (fun v' w' h1 h2 h3 => ?_)
 obtain ⟨a', c', rfl⟩ := row_formO h1
 exact h a' c' w' (by rw [List.flatMap_append]; simpa using h1) (grown_below h2 hbase (fun k hk => (row_ltO hown hk).1))
end
theorem csAt_take {w : World} {g off : Nat} {cs : List (Tr × Value × Value)} (h : CsAt w g off cs) (n : Nat) : CsAt w g off (cs.take n) := fun i x hx => h i x (by
 rw [List.getElem?_take] at hx
 split at hx
 ·exact hx
 ·cases hx)
theorem csAt_drop {w : World} {g off : Nat} {cs : List (Tr × Value × Value)} (h : CsAt w g off cs) (n : Nat) : CsAt w g (off + n * 13) (cs.drop n) := fun i x hx => by
 rw [List.getElem?_drop] at hx
 have := h (n + i) x hx
 rw [show off + n * 13 + i * 13 = off + (n + i) * 13 from by omega]
 exact this
theorem csAt_keep {w w' : World} {g off : Nat} {cs : List (Tr × Value × Value)} (h : CsAt w g off cs) (hg : g < w.heap.size) (hb : Below w.heap.size w w') : CsAt w' g off cs := fun i x hx => rangeAt_keep (h i x hx) hg hb
def findN (h : Int) : List Tr → Nat
 | [] => 0
 | t :: r => if t.head.height < h then findN h r + 1 else 0
def thereL (h : Int) : List Tr → Bool
 | [] => false
 | t :: r => if t.head.height < h then thereL h r else decide (t.head.height = h)
theorem findN_le (h : Int) : ∀ l, findN h l ≤ l.length
 | [] => Nat.le_refl _
 | t :: r => by
  have := findN_le h r
  unfold findN
  split
  ·rw [List.length_cons]; omega
  ·omega
theorem thereL_lt (h : Int) : ∀ l, thereL h l = true → findN h l < l.length
 | [], he => by cases he
 | t :: r, he => by
  unfold thereL at he
  unfold findN
  split
  ·rename_i hc
   rw [if_pos hc] at he
   have := thereL_lt h r he
   rw [List.length_cons]; omega
  ·rw [List.length_cons]; omega
theorem find_below {h : Int} {t : Tr} {r : List Tr} (hc : t.head.height < h) : findN h (t :: r) = findN h r + 1 ∧ thereL h (t :: r) = thereL h r := ⟨if_pos hc, if_pos hc⟩
theorem find_here {h : Int} {t : Tr} {r : List Tr} (hc : ¬ t.head.height < h) : findN h (t :: r) = 0 ∧ thereL h (t :: r) = decide (t.head.height = h) := ⟨if_neg hc, if_neg hc⟩
def withL (l : List Tr) (t : Tr) : List Tr := l.take (findN t.head.height l) ++ [t] ++ l.drop (findN t.head.height l + if thereL t.head.height l = true then 1 else 0)
def withoutL (l : List Tr) (h : Int) : List Tr := l.take (findN h l) ++ l.drop (findN h l + 1)
theorem rfind_any (av : List Nat) (v : Value) (l : List Tr) (h : Int) (w : World) (hv : TLA w av v l) :
  Calls Tryz.prog 83 #[v, .int .i64 h] w fun e w' => e = .returned (.tuple #[.int .i64 ((findN h l : Int)), .bool (thereL h l)]) ∧ Below w.heap.size w w' := by
 obtain ⟨a, c, rfl⟩ := hv.form
 have hls := hv.small
 have HV := Lib.hid hv
 have HF : Hid (findN h l = 0 + findN h (l.drop 0) ∧ thereL h l = thereL h (l.drop 0)) := Lib.hid (by rw [List.drop_zero]; exact ⟨by omega, rfl⟩)
 generalize findN h l = fn at *
 generalize thereL h l = th at *
 clear hv
 go_enter Tryz.func83, Tryz.ntmps83
 go_wp2_with fail
 go_loopw [6] (fun s6 wr => ∃ i : Nat, i ≤ l.length ∧ s6 = .int .i64 i ∧ Hid (fn = i + findN h (l.drop i) ∧ th = thereL h (l.drop i)) ∧ Below w.heap.size w wr) (fun s6 _ => l.length - (intOf s6).toNat)
 case atStart => exact ⟨0, by omega, rfl, HF, Below.refl _ _⟩
 case round =>
  obtain ⟨i, hi, rfl, HFi, hbr⟩ := hrel
  clear HF
  by_cases hlt : i < l.length
  ·have hbd : 0 ≤ (i : Int) ∧ (i : Int) < (l.length : Int) := by omega
   obtain ⟨t, ht⟩ : ∃ t, l[i]? = some t := ⟨l[i], List.getElem?_eq_getElem hlt⟩
   obtain ⟨g, off, sk, ms, rfl, hg, hR, _⟩ := HV.out.at i t ht
   have hR2 := rangeAt_keep hR hg hbr
   have c0 := hR2 0 (.int .i64 t.head.height) rfl
   rw [Nat.add_zero] at c0
   have HDR := Lib.hid (dropT l i t ht)
   clear ht hR hR2
   by_cases hc : t.head.height < h
   ·have d1 : decide (h ≤ t.head.height) = false := by simp; omega
    have HF2 : Hid (fn = (i + 1) + findN h (l.drop (i + 1)) ∧ th = thereL h (l.drop (i + 1))) := Lib.hid (by
     have h1 := HFi.out
     have h2 := find_below (r := l.drop (i + 1)) hc
     rw [HDR.out, h2.1, h2.2] at h1
     exact ⟨by omega, h1.2⟩)
    clear hc HFi HDR
    go_wp2_with fail
    exact ⟨⟨i + 1, by omega, by go_num, HF2, hbr⟩, by simp [intOf]; omega⟩
   ·have d1 : decide (h ≤ t.head.height) = true := by simp; omega
    have HZ : Hid (fn = i ∧ th = (t.head.height == h)) := Lib.hid (by
     have h1 := HFi.out
     have h2 := find_here (r := l.drop (i + 1)) hc
     rw [HDR.out, h2.1, h2.2] at h1
     exact ⟨by omega, by rw [h1.2]; rfl⟩)
    clear hc HFi HDR
    go_wp2_with fail
    go_quiet (fail)
    go_wp2_with fail
    go_ret2
    rw [HZ.out.1, HZ.out.2]
    exact ⟨rfl, below_drewN hbr _⟩
  ·have hil : i = l.length := by omega
   subst hil
   have HZ : Hid (fn = l.length ∧ th = false) := Lib.hid (by
    have h1 := HFi.out
    rw [List.drop_length] at h1
    exact ⟨by rw [h1.1]; rfl, h1.2⟩)
   clear HFi
   go_wp2_with fail
   go_ret2
   rw [HZ.out.1, HZ.out.2]
   exact ⟨rfl, hbr⟩
end Go.Proofs.YthgjdaomcpinaaaGreatDoor
