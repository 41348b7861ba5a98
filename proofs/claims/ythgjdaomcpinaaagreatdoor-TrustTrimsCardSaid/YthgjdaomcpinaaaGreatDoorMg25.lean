/- DiskA, Jour, JourW, TWrite, TOpen, TMap, Shelf8. -/
import Derived.Deep.Upon
import Derived.WalkMore
import Derived.Lib.OwnKind
import Derived.Sort.KeysCollected
import Derived.Test.YthgjdaomcpinaaaGreatDoorProg
import Derived.Shelf.SlMaps.Clone
import Derived.Test.YthgjdaomcpinaaaGreatDoorMg13
import Derived.Test.YthgjdaomcpinaaaGreatDoorMg24
set_option linter.unnecessarySimpa false

/- Layer 31: a disk: the program's walk of Append. -/
set_option linter.unusedSimpArgs false
set_option linter.unusedVariables false
namespace Go.Proofs.YthgjdaomcpinaaaGreatDoor
open Go.RowKit Pl

/-- Bytes of a slice with no room behind its end: what is appended lies in a new block. -/
theorem run_app_grow (w : World) (av : List Nat) (va : Option Addr) (l news : Bs) (ty : TypeId) (hold : ∀ sz, sz = 1 → (Builtin.firstCells sz l.length (.slice va l.length l.length)).run Tryz.prog w.drew = .ok (bv l).toArray w.drew) (hn : news ≠ []) (hav : ∀ x ∈ av, x < w.heap.size) (hlen : l.length + news.length ≤ 140737488355328) :
    ∃ v' w', (Builtin.append_ #[113, 9] ty #[.slice va l.length l.length, .string ⟨List.toArray (news)⟩]).run Tryz.prog w = .ok v' w' ∧ BOwv w' av v' (l ++ news) ∧ Below w.heap.size w w' := by
  obtain ⟨i0, hi, hz0, hz1, hz2⟩ := info_parts infoU8
  have hz := bs_size news
  have hsrc := Src.ofString (P := Tryz.prog) w (tx := 9) Tryz.underlying9 ⟨news.toArray⟩
  rw [hz, ← hz1] at hsrc
  have hnl : (byteCells ⟨news.toArray⟩).length = news.length := by rw [byteCells_length, hz]
  have hnp : 0 < news.length := List.length_pos_iff.2 hn
  obtain ⟨cap, hcap⟩ : ∃ c, c = l.length := ⟨_, rfl⟩
  have hroom : ¬ l.length + news.length ≤ cap := by omega
  rw [show Value.slice va l.length l.length = Value.slice va l.length cap from by rw [hcap]]
  have hge := grownCap_ge w (l.length + news.length) cap 5
  have hle := grownCap_le_maxLen w (l.length + news.length) cap 5 (by unfold maxLen; omega)
  have hr := run_append_grow_src (P := Tryz.prog) w 113 9 ty 5 i0 (.int .u8 0) Tryz.underlying113 hi hz0 va l.length cap (bv l) (by rw [hz1, hcap]; exact hold 1 rfl) _ news.length _ hsrc (by omega) (by omega) (by
      rw [hz2]
      have := nextslicecap_le (show cap < l.length + news.length by omega)
      omega)
  refine ⟨_, _, hr, ⟨w.heap.size, _, by rw [List.length_append], fun hi => Nat.lt_irrefl _ (hav _ hi), by simp, by rw [List.length_append]; exact hge, hle, fun i hi => ?_, fun i hi => ⟨?_, ?_⟩⟩, ?_⟩
  · have hx : ((bv l ++ byteCells ⟨news.toArray⟩).toArray ++ Builtin.zeroCells (Value.int .u8 0).cells (grownCap w (l.length + news.length) cap 5 - (l.length + news.length)))[i]? = some (.int .u8 (((l ++ news).getD i 0).toNat : Int)) := by
      rw [List.length_append] at hi
      rw [Array.getElem?_append_left (by simp [bv_len, hnl]; omega)]
      simp only [List.getElem?_toArray]
      by_cases hil : i < l.length
      · rw [List.getElem?_append_left (by rw [bv_len]; exact hil)]
        simp [bv, List.getD, List.getElem?_eq_getElem hil, List.getElem?_append_left hil]
      · obtain ⟨j, rfl⟩ : ∃ j, i = l.length + j := ⟨i - l.length, by omega⟩
        rw [List.getElem?_append_right (by rw [bv_len]; omega), bv_len, Nat.add_sub_cancel_left, bcells_at news j (by omega)]
        simp [List.getD, List.getElem?_append_right]
    exact (Blk.new w.drew _ 5).cell i |>.trans hx
  · have hx : i < ((bv l ++ byteCells ⟨news.toArray⟩).toArray ++ Builtin.zeroCells (Value.int .u8 0).cells (grownCap w (l.length + news.length) cap 5 - (l.length + news.length))).size := by
      simp [bv_len, hnl, size_zeroCells, Value.cells]
      omega
    show ((w.drew.alloc _).cell? ⟨w.drew.heap.size, i, none⟩).isSome = true
    rw [(Blk.new w.drew _ 5).cell i, Array.getElem?_eq_getElem hx]
    rfl
  · exact (Blk.new w.drew _ 5).froz i
  · exact (Below.refl _ _).drew.alloc (Nat.le_refl _) _
/-- The same of a disk's bytes, cut to what they are; whatever comes behind. -/
theorem run_app_db (w : World) (av : List Nat) (va : Option Addr) (c0 : Nat) (l news : Bs) (ty : TypeId) (h : DB w av (.slice va l.length c0) l) (hav : ∀ x ∈ av, x < w.heap.size) (hlen : l.length + news.length ≤ 140737488355328) :
    ∃ v' w', (Builtin.append_ #[113, 9] ty #[.slice va l.length l.length, .string ⟨List.toArray (news)⟩]).run Tryz.prog w = .ok v' w' ∧ DB w' av v' (l ++ news) ∧ Below w.heap.size w w' := by
  by_cases hn : news = []
  · subst hn
    obtain ⟨i0, hi, hz0, hz1, hz2⟩ := info_parts infoU8
    have hsrc := Src.ofString (P := Tryz.prog) w (tx := 9) Tryz.underlying9 ⟨([] : Bs).toArray⟩
    have hS : Src Tryz.prog i0.size 9 (.string ⟨List.toArray ([])⟩) 0 [] w := by
      rw [hz1]
      exact hsrc
    refine ⟨_, w, run_append_nothing (P := Tryz.prog) w 113 9 ty 5 i0 Tryz.underlying113 hi va l.length l.length (Nat.le_refl _) _ hS, ?_, Below.refl _ _⟩
    rw [List.append_nil]
    rcases h with ⟨e1, e2⟩ | ⟨g, cap, e1, h2, h3, h4, h5, h6, h7⟩
    · left
      subst e2
      injection e1 with e1 _ _
      subst e1
      exact ⟨rfl, rfl⟩
    · right
      injection e1 with e1 _ e3
      subst e1 e3
      exact ⟨g, l.length, rfl, h2, h3, Nat.le_refl _, by omega, h6, fun i hi => h7 i (by omega)⟩
  · have hold : ∀ sz, sz = 1 → (Builtin.firstCells sz l.length (.slice va l.length l.length)).run Tryz.prog w.drew = .ok (bv l).toArray w.drew := by
      rintro sz rfl
      rcases h with ⟨e1, e2⟩ | ⟨g, cap, e1, h2, h3, h4, h5, h6, h7⟩
      · subst e2
        injection e1 with e1 _ _
        subst e1
        exact run_firstCells_none (P := Tryz.prog) w.drew 1 _ _ _
      · injection e1 with e1 _ _
        subst e1
        refine run_firstCells_some (P := Tryz.prog) w.drew 1 l.length ⟨g, 0, none⟩ l.length l.length (bv l) (by rw [bv_len]; omega) (fun j u hu => ?_)
        have hj : j < l.length := by
          have := (List.getElem?_eq_some_iff.1 hu).1
          rw [bv_len] at this; exact this
        rw [Addr.add_lit, Nat.zero_add]
        refine (h6 j hj).trans ?_
        rw [← hu]
        simp [bv, List.getD, List.getElem?_eq_getElem hj]
    obtain ⟨v', w', hr, h1, h2⟩ := run_app_grow w av va l news ty hold hn hav hlen
    exact ⟨v', w', hr, .inr h1, h2⟩
section
variable {ops : Array Oper} {o : Oper} {rest : List Oper} {a : Act} {w : World} {Q : Exit → Act → World → Prop}
theorem wpList_appD (hgd : o.guard = none) (s x : Operand)
    (ho : o.op = .call { callee := .builtin .append, args := #[s, x], argTypes := #[113, 9] })
    (av : List Nat) (va : Option Addr) (c0 : Nat) (l : Bs) (hs : a.eval s = .slice va l.length l.length) (hown : DB w av (.slice va l.length c0) l) (news : Bs) (hx : a.eval x = .string ⟨List.toArray (news)⟩)
    (hlen : l.length + news.length ≤ 140737488355328) (hav : ∀ x ∈ av, x < w.heap.size)
    (h : ∀ v' w', DB w' av v' (l ++ news) → Below w.heap.size w w' → wpList Tryz.prog ops Q rest (a.put o.dst v') w') : wpList Tryz.prog ops Q (o :: rest) a w := by
  refine wpList_plain hgd fun K hK => ?_
  obtain ⟨v', w', hr, h2, h3⟩ := run_app_db w av va c0 l news o.type hown hav hlen
  unfold Oper.wp execOp
  simp only [ho, resolve, invoke, builtin, Sem.run_bind, Sem.run_pure, Result.andThen_ok, List.map_toArray, List.map_cons, List.map_nil, hs, hx, hr]
  exact hK _ _ (h v' w' h2 h3)
end
namespace Pl
def appD (d : Dk) (t : Bs) : Dk × Int :=
  if d.down then (d, 311) else if d.room - (d.s.length : Int) < (t.length : Int) then (d, 310)
  else if (burntD d).2 = 0 then (⟨d.s ++ t, d.safe, d.room, (burntD d).1.fuse, d.down⟩, 0) else burntD d
theorem burnt_same {d : Dk} (h0 : (burntD d).2 = 0) : (burntD d).1.s = d.s ∧ (burntD d).1.room = d.room ∧ (burntD d).1.down = d.down ∧ (burntD d).1.safe = d.safe := by
  unfold burntD at h0 ⊢
  split
  · rename_i h1; rw [if_pos h1] at h0; exact absurd h0 (by simp)
  · split <;> exact ⟨rfl, rfl, rfl, rfl⟩
end Pl
set_option maxRecDepth 100000 in
set_option maxHeartbeats 2000000 in
theorem dappend_any (av : List Nat) (p : Nat) (d : Dk) (t : Bs) (hf : -9223372036854775808 ≤ d.fuse ∧ d.fuse ≤ 9223372036854775807) (hrm : 0 ≤ d.room ∧ d.room ≤ 1048576) (hsl : d.s.length ≤ 1048576) (htl : t.length ≤ 100000000) (w : World) (h : DkV w av p d) (hav : ∀ x ∈ av, x < w.heap.size) :
    Calls Tryz.prog 156 #[.pointer (some ⟨p, 0, none⟩), .string ⟨List.toArray (t)⟩] w fun e w' => e = .returned (.int .i64 ((appD d t).2)) ∧ DkV w' av p (appD d t).1 ∧ Mod [p] w w' := by
  have hch := fun W (h : DkV W av p d) => dchange_any av p d hf W h
  have H := Lib.hid h
  obtain ⟨v, hv, B⟩ := h.row
  obtain ⟨va, vc, rfl⟩ := hv.form
  have hbs := fun h0 => burnt_same (d := d) h0
  have HA : Hid (appD d t = if d.down then (d, 311) else if d.room - (d.s.length : Int) < (t.length : Int) then (d, 310) else if (burntD d).2 = 0 then (⟨d.s ++ t, d.safe, d.room, (burntD d).1.fuse, d.down⟩, 0) else burntD d) := Lib.hid rfl
  generalize appD d t = R at *
  generalize burntD d = x at *
  obtain ⟨d1, c⟩ := x
  simp only at hch hbs
  have HBS := Lib.hid hbs
  have w1 : IntKind.i64.wrap (d.room - (d.s.length : Int)) = d.room - (d.s.length : Int) := by rw [IntKind.wrap_i64]; omega
  obtain ⟨b1, b2, b3⟩ := id B
  clear hbs hv h
  cases hd : d.down
  · rw [hd] at b1
    have HD := Lib.hid hd
    clear hd
    by_cases hr : d.room - (d.s.length : Int) < (t.length : Int)
    · have g1 : decide (d.room - (d.s.length : Int) < (t.length : Int)) = true := by simpa using hr
      have HR : Hid (R = (d, 310)) := Lib.hid (by rw [HA.out, HD.out, if_neg (by decide), if_pos hr])
      clear hr HA hch
      go_enter Tryz.func156, Tryz.ntmps156
      go_wp2_with fail
      go_quiet (fail)
      go_wp2_with fail
      go_ret
      rw [HR.out]
      exact ⟨rfl, H.out.keep (below_drewN (Below.refl _ _) _), (Mod.refl _ _).drewN _⟩
    · have g1 : decide (d.room - (d.s.length : Int) < (t.length : Int)) = false := by simpa using hr
      have HR : Hid (R = if c = 0 then (⟨d.s ++ t, d.safe, d.room, d1.fuse, d.down⟩, 0) else (d1, c)) := Lib.hid (by rw [HA.out, HD.out, if_neg (by decide), if_neg hr])
      clear hr HA
      have hch2 := fun n => hch _ (H.out.keep (below_drewN (Below.refl w.heap.size w) n))
      clear hch
      go_enter Tryz.func156, Tryz.ntmps156
      go_wp2_with fail
      go_quiet (fail)
      go_wp2_with fail
      refine (hch2 _).mono ?_
      rintro e w2 ⟨rfl, h1, m1⟩
      have mm := ((Mod.refl [p] w).drewN _).trans m1
      clear b1 b2 b3 hch2 m1 B
      obtain ⟨v1, hv1, B1⟩ := h1.row
      have HL := Lib.hid h1.lt
      obtain ⟨va1, vc1, rfl⟩ := hv1.form
      have H1 := Lib.hid h1
      have hbw := fun x (hx : x ∈ av) => Nat.lt_of_lt_of_le (hav x hx) mm.size
      clear h1
      by_cases h0 : c = 0
      · subst h0
        obtain ⟨e1, e2, e3, e4⟩ := HBS.out rfl
        have HR2 : Hid (R = (⟨d.s ++ t, d.safe, d.room, d1.fuse, d.down⟩, 0)) := Lib.hid (by rw [HR.out]; rfl)
        have hs1 : d1.s.length ≤ 1048576 := by rw [e1]; exact hsl
        have HE := Lib.hid (And.intro e1 (And.intro e2 (And.intro e3 e4)))
        have HV1 := Lib.hid hv1
        clear e1 e2 e3 e4 HR HBS
        rcases hv1 with ⟨hz1, hz2⟩ | ⟨g, cap, hz, hg1, hg2, hg3, hg4, _, _⟩
        · injection hz1 with hz1 _ hz3
          subst hz1 hz3
          obtain ⟨ds1, sf1, rm1, fu1, dn1⟩ := d1
          simp only at hz2 HV1 B1 HE HR2 hs1
          subst hz2
          have B1 : Blk w2 p #[.slice none 0 0, .int .i64 (sf1), .int .i64 (rm1), .int .i64 (fu1), .bool dn1] := B1
          obtain ⟨b1, b2, b3⟩ := id B1
          go_wp2_with (first
            | (at_builtin; refine wpList_appD rfl (.tmp 41) (.tmp 42) rfl av none 0 [] rfl HV1.out t rfl (by simp; omega) hbw ?_; intro v3 w3 hv3 hb3; obtain ⟨va3, vc3, rfl⟩ : ∃ a c, v3 = .slice a t.length c := (by have := hv3.form; rwa [List.nil_append] at this); have B3 := B1.keep hb3; obtain ⟨k1, k2, k3⟩ := id B3)
            | fail)
          go_ret
          have hm := (Mod.refl [p] w3).setCell (p := ⟨p, 0, none⟩) (.inl (by simp)) (.slice va3 t.length vc3)
          rw [HR2.out]
          obtain ⟨e1, e2, e3, e4⟩ := HE.out
          refine ⟨rfl, ⟨HL.out, .slice va3 t.length vc3, ?_, ?_⟩, (mm.trans (Mod.of_below hb3)).trans hm⟩
          · have := hv3.mod hm HL.out
            rw [e1] at this
            exact this
          · have := B3.set 0 (.slice va3 t.length vc3)
            rw [← e2, ← e3, ← e4]
            simpa using this
        · injection hz with hz1 _ hz3
          subst hz1 hz3
          have hcp : (d1.s.length : Int) ≤ (vc1 : Int) := by omega
          obtain ⟨b1, b2, b3⟩ := id B1
          go_wp2_with (first
            | (at_builtin; refine wpList_appD rfl (.tmp 41) (.tmp 42) rfl av (some ⟨g, 0, none⟩) vc1 d1.s (by go_simp; try rfl) HV1.out t rfl (by omega) hbw ?_; intro v3 w3 hv3 hb3; obtain ⟨va3, vc3, rfl⟩ : ∃ a c, v3 = .slice a (d1.s.length + t.length) c := (by have := hv3.form; rwa [List.length_append] at this); have B3 := B1.keep hb3; obtain ⟨k1, k2, k3⟩ := id B3)
            | fail)
          go_ret
          have hm := (Mod.refl [p] w3).setCell (p := ⟨p, 0, none⟩) (.inl (by simp)) (.slice va3 (d1.s.length + t.length) vc3)
          rw [HR2.out]
          obtain ⟨e1, e2, e3, e4⟩ := HE.out
          refine ⟨rfl, ⟨HL.out, .slice va3 (d1.s.length + t.length) vc3, ?_, ?_⟩, (mm.trans (Mod.of_below hb3)).trans hm⟩
          · have := hv3.mod hm HL.out
            rw [e1] at this ⊢
            exact this
          · have := B3.set 0 (.slice va3 (d1.s.length + t.length) vc3)
            rw [← e2, ← e3, ← e4]
            simpa using this
      · have g2 : (c == 0) = false := by simpa using h0
        have g3 : (c != 0) = true := by simpa using h0
        have HR2 : Hid (R = (d1, c)) := Lib.hid (by rw [HR.out, if_neg h0])
        clear h0 HR HBS
        go_wp2_with fail
        go_ret
        rw [HR2.out]
        exact ⟨rfl, H1.out, mm⟩
  · rw [hd] at b1
    have HR : Hid (R = (d, 311)) := Lib.hid (by rw [HA.out, hd]; rfl)
    clear hd HA hch B
    go_enter Tryz.func156, Tryz.ntmps156
    go_wp2_with fail
    go_ret
    rw [HR.out]
    exact ⟨rfl, H.out, Mod.refl _ _⟩
end Go.Proofs.YthgjdaomcpinaaaGreatDoor

/- Layer 32: a batch as bytes; batches are written: plain, and the program's walks. -/
set_option linter.unusedSimpArgs false
set_option linter.unusedVariables false
namespace Go.Proofs.YthgjdaomcpinaaaGreatDoor
open Go.RowKit Pl

namespace Pl
/-- A record. -/
def recP (l : List Bs) : Bs := text (encS l) ++ (sumP (text (encS l))).take 4
/-- May a batch be written? -/
def mayR (l : List Bs) : Bool := decide (l.length ≤ 1024) && l.all (fun s => decide (s.length ≤ 65536)) && decide ((encS l).length ≤ 524288)
end Pl
set_option maxRecDepth 100000 in
set_option maxHeartbeats 2000000 in
theorem jrecord_any (v : Value) (l : List Bs) (hn : l.length ≤ 1000) (hm : mayR l = true) (w : World) (hk : KT w) (hv : SS w v l) :
    Calls Tryz.prog 155 #[v] w fun e w' => e = .returned (.tuple #[.string ⟨List.toArray (recP l)⟩, .int .i64 (0)]) ∧ Below w.heap.size w w' := by
  unfold mayR at hm
  simp only [Bool.and_eq_true, decide_eq_true_eq, List.all_eq_true] at hm
  obtain ⟨⟨h1, h2⟩, h3⟩ := hm
  have hl : ∀ i, i < l.length → (l.getD i []).length ≤ 65536 := fun i hi => h2 _ (by rw [List.getD_eq_getElem?_getD, List.getElem?_eq_getElem hi]; exact List.getElem_mem _)
  have HL := Lib.hid hl
  have q1 := fun W (hb : Below w.heap.size w W) => clist_any v l W hn (fun i hi => by have := hl i hi; omega) (hv.keep hb)
  have q2 := fun W => ctext_any (encS l) (by omega) W
  have ht := text_len (encS l)
  have q3 := fun W (hb : Below w.heap.size w W) => shasum_any (text (encS l)) (by omega) W (hk.keep hb)
  have hsl := sumP_len (text (encS l))
  have hr : recP l = text (encS l) ++ (sumP (text (encS l))).take 4 := rfl
  rw [hr]
  obtain ⟨va, vc, rfl⟩ := hv.form
  have HV := Lib.hid hv
  have d1 : decide (1024 < (l.length : Int)) = false := by rw [decide_eq_false_iff_not]; omega
  have d2 : decide (524288 < ((encS l).length : Int)) = false := by rw [decide_eq_false_iff_not]; omega
  have d3 : ¬ 524288 < ((encS l).length : Int) := by omega
  clear hl h2 hr hv
  generalize encS l = E at *
  generalize text E = T at *
  generalize sumP T = D at *
  have hcat : ¬ 9223372036854775807 < T.length + 4 := by omega
  have h4 : (D.take 4).length = 4 := by rw [List.length_take]; omega
  go_enter Tryz.func155, Tryz.ntmps155
  go_wp2_with fail
  go_loopw [13] (fun s13 wr => ∃ i : Nat, s13 = .int .i64 (i) ∧ i ≤ l.length ∧ Below w.heap.size w wr) (fun s13 _ => l.length - (intOf s13).toNat)
  case atStart => exact ⟨0, rfl, Nat.zero_le _, Below.refl _ _⟩
  case round =>
    obtain ⟨i, rfl, hi, hb⟩ := hrel
    obtain ⟨wr, hnm⟩ := Below.name hb
    subst hnm
    by_cases hlt : i < l.length
    · have HLT := Lib.hid hlt
      have i1 : decide ((i : Int) < (l.length : Int)) = true := by simp; omega
      have i0 : 0 ≤ (i : Int) ∧ (i : Int) < (l.length : Int) := by omega
      obtain ⟨g, off, e1, hg, c1⟩ := (HV.out.keep hb).at' i hlt
      subst e1
      have hx := HL.out i hlt
      generalize l.getD i [] = x at *
      have d4 : decide (65536 < (x.length : Int)) = false := by rw [decide_eq_false_iff_not]; omega
      have d5 : ¬ 65536 < (x.length : Int) := by omega
      clear hlt hx
      go_wp2_with fail
      exact ⟨⟨i + 1, by go_num, by have := HLT.out; omega, hb⟩, by have := HLT.out; simp [intOf]; omega⟩
    · have e : i = l.length := by omega
      subst e
      clear hlt
      go_wp2_with fail
      refine (q1 _ hb).mono ?_
      rintro e w2 ⟨rfl, hb2⟩
      have hb2 := hb.trans (hb2.mono hb.size)
      go_wp2_with fail
      refine (q2 _).mono ?_
      rintro e w3 ⟨rfl, hb3⟩
      have hb3 := hb2.trans (hb3.mono hb2.size)
      go_wp2_with fail
      refine (q3 _ hb3).mono ?_
      rintro e w4 ⟨rfl, hb4⟩
      have hb4 := hb3.trans (hb4.mono hb3.size)
      go_wp2_with fail
      go_ret2
      exact ⟨by simp, hb4⟩
end Go.Proofs.YthgjdaomcpinaaaGreatDoor

/- Layer 32: the journal: opened on a disk without bytes; a batch is written: the program's walks. -/
set_option linter.unusedSimpArgs false
set_option linter.unusedVariables false
namespace Go.Proofs.YthgjdaomcpinaaaGreatDoor
open Go.RowKit Pl

namespace Pl
/-- The disk behind a write, and the code. -/
def writeD (d : Dk) (l : List Bs) : Dk × Int := if (appD d (recP l)).2 = 0 then syncD (appD d (recP l)).1 else appD d (recP l)
theorem burnt_fuse (d : Dk) : (burntD d).1.fuse = d.fuse ∨ ((burntD d).1.fuse = d.fuse - 1 ∧ 0 < d.fuse) := by
  unfold burntD
  split
  · exact .inl rfl
  · split
    · rename_i h
      exact .inr ⟨rfl, h⟩
    · exact .inl rfl
theorem app_fuse (d : Dk) (t : Bs) : (appD d t).1.fuse = d.fuse ∨ ((appD d t).1.fuse = d.fuse - 1 ∧ 0 < d.fuse) := by
  unfold appD
  split
  · exact .inl rfl
  · split
    · exact .inl rfl
    · split
      · exact burnt_fuse d
      · exact burnt_fuse d
def tornD (c : Int) : Bool := decide (c ≠ 0) && decide (c ≠ 310)
end Pl
theorem jscan_empty (w : World) : Calls Tryz.prog 122 #[.string ⟨List.toArray ([])⟩] w fun e w' => e = .returned (.tuple #[.slice none 0 0, .int .i64 (0)]) ∧ w' = w := by
  go_enter Tryz.func122, Tryz.ntmps122
  go_wp2_with fail
  go_step3
  go_wp2_with fail
  go_step3
  go_wp2_with fail
  go_loopw [2, 3] (fun s2 s3 wr => s2 = .slice none 0 0 ∧ s3 = .int .i64 (0) ∧ wr = w) (fun _ _ _ => 0)
  case atStart => exact ⟨rfl, rfl, rfl⟩
  case round =>
    obtain ⟨rfl, rfl, rfl⟩ := hrel
    go_wp2_with fail
    rw [Exit.noGoto_ret]
    go_ret2
    exact ⟨rfl, rfl⟩
set_option maxRecDepth 100000 in
set_option maxHeartbeats 2000000 in
theorem jopen_empty (av : List Nat) (p : Nat) (d : Dk) (hd : d.s = []) (hf : -9223372036854775808 ≤ d.fuse ∧ d.fuse ≤ 9223372036854775807) (hsy : (syncD d).2 = 0) (w : World) (h : DkV w av p d) :
    Calls Tryz.prog 68 #[.pointer (some ⟨p, 0, none⟩)] w fun e w' => ∃ j, e = .returned (.tuple #[.pointer (some ⟨j, 0, none⟩), .slice none 0 0, .int .i64 (0)]) ∧ w.heap.size ≤ j ∧ Blk w' j #[.pointer (some ⟨p, 0, none⟩), .bool false] ∧ DkV w' (j :: av) p (syncD d).1 ∧ Mod [p] w w' := by
  have q1 := dread_any av p d w h
  rw [hd] at q1
  have q2 := jscan_empty w
  have q3 := dsync_any av p d hf w h
  generalize syncD d = x at *
  obtain ⟨d1, c⟩ := x
  simp only at hsy q3
  subst hsy
  clear hd h
  go_enter Tryz.func68, Tryz.ntmps68
  go_wp2_with fail
  refine q1.mono ?_
  rintro e w1 ⟨rfl, rfl⟩
  go_wp2_with fail
  refine q2.mono ?_
  rintro e w2 ⟨rfl, rfl⟩
  go_wp2_with fail
  refine q3.mono ?_
  rintro e w3 ⟨rfl, h3, m3⟩
  go_wp2_with fail
  go_ret3
  exact ⟨w3.heap.size, rfl, m3.size, Blk.new _ _ _, (h3.more (Nat.le_refl _)).keep (Below.allocS (Below.refl _ _) _), m3.trans (Mod.of_below (Below.allocS (Below.refl _ _) _))⟩
set_option maxRecDepth 100000 in
set_option maxHeartbeats 2000000 in
theorem jwrite_any (av : List Nat) (p j : Nat) (d : Dk) (v : Value) (l : List Bs) (hn : l.length ≤ 1000) (hm : mayR l = true) (hf : -9223372036854775808 ≤ d.fuse ∧ d.fuse ≤ 9223372036854775807) (hrm : 0 ≤ d.room ∧ d.room ≤ 1048576) (hsl : d.s.length ≤ 1048576) (w : World) (hk : KT w) (h : DkV w av p d) (hj : Blk w j #[.pointer (some ⟨p, 0, none⟩), .bool false]) (hpj : p ≠ j) (hjb : j ∈ av) (hav : ∀ x ∈ av, x < w.heap.size) (hv : SS w v l) :
    Calls Tryz.prog 128 #[.pointer (some ⟨j, 0, none⟩), v] w fun e w' => e = .returned (.int .i64 ((writeD d l).2)) ∧ DkV w' av p (writeD d l).1 ∧ Blk w' j #[.pointer (some ⟨p, 0, none⟩), .bool (tornD (writeD d l).2)] ∧ Mod [p, j] w w' := by
  have q1 := jrecord_any v l hn hm w hk hv
  have hlen : (recP l).length ≤ 1000000 := by
    unfold mayR at hm
    simp only [Bool.and_eq_true, decide_eq_true_eq] at hm
    have h1 := text_len (encS l)
    unfold recP
    rw [List.length_append, List.length_take]
    omega
  have q2 := fun W (h : DkV W av p d) (hb : ∀ x ∈ av, x < W.heap.size) => dappend_any av p d (recP l) hf hrm hsl (by omega) W h hb
  have hap := app_fuse d (recP l)
  have q3 := fun W (h : DkV W av p (appD d (recP l)).1) => dsync_any av p (appD d (recP l)).1 (by omega) W h
  have HW : Hid (writeD d l = if (appD d (recP l)).2 = 0 then syncD (appD d (recP l)).1 else appD d (recP l)) := Lib.hid rfl
  generalize writeD d l = R at *
  generalize appD d (recP l) = x at *
  obtain ⟨d1, c1⟩ := x
  simp only at q2 q3 hap
  generalize syncD d1 = y at *
  obtain ⟨d2, c2⟩ := y
  simp only at q3
  generalize recP l = rr at *
  obtain ⟨b1, b2, b3⟩ := id hj
  have HT : Hid (∀ c, tornD c = (decide (c ≠ 0) && decide (c ≠ 310))) := Lib.hid (fun _ => rfl)
  clear hm hlen hap
  go_enter Tryz.func128, Tryz.ntmps128
  go_wp2_with fail
  refine q1.mono ?_
  rintro e w1 ⟨rfl, hb1⟩
  have h1 := h.keep hb1
  have hj1 := hj.keep hb1
  have hbs1 := fun x (hx : x ∈ av) => Nat.lt_of_lt_of_le (hav x hx) hb1.size
  clear b1 b2 b3 q1 h hj
  obtain ⟨b1, b2, b3⟩ := id hj1
  go_wp2_with fail
  refine (q2 _ h1 hbs1).mono ?_
  rintro e w2 ⟨rfl, h2, m2⟩
  have hj2 := hj1.mod m2 (by simp; omega)
  clear b1 b2 b3 q2 h1 hj1
  obtain ⟨b1, b2, b3⟩ := id hj2
  have hkp := hb1
  by_cases h0 : c1 = 0
  · subst h0
    have HR : Hid (R = (d2, c2)) := Lib.hid (by rw [HW.out, if_pos rfl])
    clear HW
    go_wp2_with fail
    refine (q3 _ h2).mono ?_
    rintro e w3 ⟨rfl, h3, m3⟩
    have hj3 := hj2.mod m3 (by simp; omega)
    clear b1 b2 b3 q3 h2 hj2
    obtain ⟨b1, b2, b3⟩ := id hj3
    by_cases h1 : c2 = 0
    · subst h1
      go_wp2_with fail
      go_ret
      have hm := (Mod.refl [p, j] w3).setCell (p := ⟨j, 1, none⟩) (.inl (by simp)) (.bool false)
      have hmj := (Mod.refl [j] w3).setCell (p := ⟨j, 1, none⟩) (.inl (by simp)) (.bool false)
      rw [HR.out]
      refine ⟨rfl, ⟨h3.lt, ?_⟩, ?_, ?_⟩
      · obtain ⟨vx, hx1, hx2⟩ := h3.row
        exact ⟨vx, hx1.mod hmj hjb, hx2.mod hmj (by simp; omega)⟩
      · rw [show tornD 0 = false from rfl]
        simpa using hj3.set 1 (.bool false)
      · exact (((Mod.of_below hb1).trans (m2.sub (by simp))).trans (m3.sub (by simp))).trans hm
    · have g1 : (c2 == 0) = false := by simpa using h1
      have g2 : (c2 != 0) = true := by simpa using h1
      by_cases h5 : c2 = 310
      · subst h5
        go_wp2_with fail
        go_ret
        have hm := (Mod.refl [p, j] w3).setCell (p := ⟨j, 1, none⟩) (.inl (by simp)) (.bool false)
        have hmj := (Mod.refl [j] w3).setCell (p := ⟨j, 1, none⟩) (.inl (by simp)) (.bool false)
        rw [HR.out]
        refine ⟨rfl, ⟨h3.lt, ?_⟩, ?_, ?_⟩
        · obtain ⟨vx, hx1, hx2⟩ := h3.row
          exact ⟨vx, hx1.mod hmj hjb, hx2.mod hmj (by simp; omega)⟩
        · rw [show tornD 310 = false from rfl]
          simpa using hj3.set 1 (.bool false)
        · exact (((Mod.of_below hb1).trans (m2.sub (by simp))).trans (m3.sub (by simp))).trans hm
      · have g3 : (c2 == 310) = false := by simpa using h5
        have g4 : (c2 != 310) = true := by simpa using h5
        have HTT : Hid (tornD c2 = true) := Lib.hid (by unfold tornD; simp [h1, h5])
        clear h1 h5
        go_wp2_with fail
        go_ret
        have hm := (Mod.refl [p, j] w3).setCell (p := ⟨j, 1, none⟩) (.inl (by simp)) (.bool true)
        have hmj := (Mod.refl [j] w3).setCell (p := ⟨j, 1, none⟩) (.inl (by simp)) (.bool true)
        rw [HR.out]
        refine ⟨rfl, ⟨h3.lt, ?_⟩, ?_, ?_⟩
        · obtain ⟨vx, hx1, hx2⟩ := h3.row
          exact ⟨vx, hx1.mod hmj hjb, hx2.mod hmj (by simp; omega)⟩
        · rw [show tornD c2 = true from HTT.out]
          simpa using hj3.set 1 (.bool true)
        · exact (((Mod.of_below hb1).trans (m2.sub (by simp))).trans (m3.sub (by simp))).trans hm
  · have g1 : (c1 == 0) = false := by simpa using h0
    have g2 : (c1 != 0) = true := by simpa using h0
    have HR : Hid (R = (d1, c1)) := Lib.hid (by rw [HW.out, if_neg h0])
    clear HW q3
    by_cases h5 : c1 = 310
    · subst h5
      go_wp2_with fail
      go_ret
      have hm := (Mod.refl [p, j] w2).setCell (p := ⟨j, 1, none⟩) (.inl (by simp)) (.bool false)
      have hmj := (Mod.refl [j] w2).setCell (p := ⟨j, 1, none⟩) (.inl (by simp)) (.bool false)
      rw [HR.out]
      refine ⟨rfl, ⟨h2.lt, ?_⟩, ?_, ?_⟩
      · obtain ⟨vx, hx1, hx2⟩ := h2.row
        exact ⟨vx, hx1.mod hmj hjb, hx2.mod hmj (by simp; omega)⟩
      · rw [show tornD 310 = false from rfl]
        simpa using hj2.set 1 (.bool false)
      · exact ((Mod.of_below hb1).trans (m2.sub (by simp))).trans hm
    · have g3 : (c1 == 310) = false := by simpa using h5
      have g4 : (c1 != 310) = true := by simpa using h5
      have HTT : Hid (tornD c1 = true) := Lib.hid (by unfold tornD; simp [h0, h5])
      clear h0 h5
      go_wp2_with fail
      go_ret
      have hm := (Mod.refl [p, j] w2).setCell (p := ⟨j, 1, none⟩) (.inl (by simp)) (.bool true)
      have hmj := (Mod.refl [j] w2).setCell (p := ⟨j, 1, none⟩) (.inl (by simp)) (.bool true)
      rw [HR.out]
      refine ⟨rfl, ⟨h2.lt, ?_⟩, ?_, ?_⟩
      · obtain ⟨vx, hx1, hx2⟩ := h2.row
        exact ⟨vx, hx1.mod hmj hjb, hx2.mod hmj (by simp; omega)⟩
      · rw [show tornD c1 = true from HTT.out]
        simpa using hj2.set 1 (.bool true)
      · exact ((Mod.of_below hb1).trans (m2.sub (by simp))).trans hm
end Go.Proofs.YthgjdaomcpinaaaGreatDoor

/- trust.Store.write: changes are written to the journal. The program's walk. -/
set_option linter.unusedSimpArgs false
set_option linter.unusedVariables false
namespace Go.Proofs.YthgjdaomcpinaaaGreatDoor
open Go.RowKit Go.Shelf Pl

set_option maxRecDepth 100000 in
set_option maxHeartbeats 2000000 in
theorem twrite_any (av : List Nat) (p j q : Nat) (m : Value) (span : Int) (d : Dk) (v : Value) (l : List Bs) (hne : l ≠ []) (hn : l.length ≤ 1000) (hm : mayR l = true) (hf : -9223372036854775808 ≤ d.fuse ∧ d.fuse ≤ 9223372036854775807) (hrm : 0 ≤ d.room ∧ d.room ≤ 1048576) (hsl : d.s.length ≤ 1048576) (w : World) (hk : KT w) (h : DkV w av p d) (hj : Blk w j #[.pointer (some ⟨p, 0, none⟩), .bool false]) (hpj : p ≠ j) (hjb : j ∈ av) (hav : ∀ x ∈ av, x < w.heap.size) (B : Blk w q #[m, .int .i64 (span), .pointer (some ⟨j, 0, none⟩)]) (hv : SS w v l) :
    Calls Tryz.prog 73 #[.pointer (some ⟨q, 0, none⟩), v] w fun e w' => e = .returned (.int .i64 ((writeD d l).2)) ∧ DkV w' av p (writeD d l).1 ∧ Blk w' j #[.pointer (some ⟨p, 0, none⟩), .bool (tornD (writeD d l).2)] ∧ Mod [p, j] w w' := by
  have q1 := jwrite_any av p j d v l hn hm hf hrm hsl w hk h hj hpj hjb hav hv
  obtain ⟨a, c, rfl⟩ := hv.form
  have hls := hv.small
  have hl : l.length ≠ 0 := fun e => hne (List.length_eq_zero_iff.1 e)
  have e0 : ((l.length : Int) == 0) = false := by rw [beq_eq_false_iff_ne]; omega
  generalize writeD d l = x at *
  obtain ⟨b1, b2, b3⟩ := id B
  clear hne hm hf hrm hsl h hj B hv hl
  go_enter Tryz.func73, Tryz.ntmps73
  go_wp2_with fail
  refine q1.mono ?_
  rintro e w1 ⟨rfl, h1, h2, h3⟩
  go_wp2_with fail
  go_ret
  exact ⟨rfl, h1, h2, h3⟩
end Go.Proofs.YthgjdaomcpinaaaGreatDoor

/- trust.Open on a disk without bytes. The program's walk. -/
set_option linter.unusedSimpArgs false
set_option linter.unusedVariables false
namespace Go.Proofs.YthgjdaomcpinaaaGreatDoor
open Go.RowKit Go.WideMaps Go.Maps Go.Shelf Pl

/-- What is trusted lies in the store's map as it is. -/
def hT (v : Value) : Option (DataW Value × List MemPlace) := some (.held v, [])
theorem hT_inv {v u : Value} {ps : List MemPlace} (h : hT v = some (.held u, ps)) : v = u := by
  unfold hT at h
  injection h with h
  injection h with h _
  injection h

set_option maxRecDepth 100000 in
set_option maxHeartbeats 2000000 in
theorem topen_empty (av : List Nat) (p : Nat) (d : Dk) (span : Int) (h0 : 1 ≤ span) (h1 : span ≤ 1099511627776) (hd : d.s = []) (hf : -9223372036854775808 ≤ d.fuse ∧ d.fuse ≤ 9223372036854775807) (hsy : (syncD d).2 = 0) (w : World) (h : DkV w av p d) :
    Calls Tryz.prog 18 #[.pointer (some ⟨p, 0, none⟩), .int .i64 (span)] w fun e w' => ∃ j m q, e = .returned (.tuple #[.pointer (some ⟨q, 0, none⟩), .int .i64 (0)]) ∧ w.heap.size ≤ j ∧ j < m ∧ m < q ∧ Blk w' j #[.pointer (some ⟨p, 0, none⟩), .bool false] ∧ DkV w' (q :: m :: j :: av) p (syncD d).1 ∧ w'.ownsMap (H := Value) Tryz.prog 3 hT m 0 (.map []) ∧ Blk w' q #[.map (some m), .int .i64 (span), .pointer (some ⟨j, 0, none⟩)] ∧ Mod [p] w w' := by
  have hmm := @run_makeMap Tryz.prog
  have q1 := jopen_empty av p d hd hf hsy w h
  have d0 : decide (span < 1) = false := by simp; omega
  have d1 : decide (1099511627776 < span) = false := by simp; omega
  clear hd hf hsy h
  go_enter Tryz.func18, Tryz.ntmps18
  go_wp2_with fail
  refine q1.mono ?_
  rintro e w1 ⟨j, rfl, hj, hB, hD, hm⟩
  have hown : (w1.alloc (.map #[] 0)).ownsMap (H := Value) Tryz.prog 3 hT w1.heap.size 0 (.map []) := World.ownsMap_made _ _ _ _
  have hbm : Below w1.heap.size w1 (w1.alloc (.map #[] 0)) := (Below.refl _ _).alloc (Nat.le_refl _) _
  have hbm2 := Below.allocS hbm (.cells #[.map (some w1.heap.size), .int .i64 (span), .pointer (some ⟨j, 0, none⟩)] 122)
  have hjl := hB.lt
  have hB2 := hB.keep hbm2
  have hD2 := ((hD.more (x := w1.heap.size) (Nat.le_refl _)).more (x := w1.heap.size + 1) (by omega)).keep hbm2
  have hown2 := hown.alloc (.cells #[.map (some w1.heap.size), .int .i64 (span), .pointer (some ⟨j, 0, none⟩)] 122)
  have hm2 := hm.trans (Mod.of_below hbm2)
  have hq : Blk ((w1.alloc (.map #[] 0)).alloc (.cells #[.map (some w1.heap.size), .int .i64 (span), .pointer (some ⟨j, 0, none⟩)] 122)) (w1.heap.size + 1) #[.map (some w1.heap.size), .int .i64 (span), .pointer (some ⟨j, 0, none⟩)] := Blk.new' (by simp)
  clear q1 hown hB hD hm
  go_wp2_with fail
  go_loopw [36] (fun s36 wr => s36 = .int .i64 0 ∧ wr = (w1.alloc (.map #[] 0)).alloc (.cells #[.map (some w1.heap.size), .int .i64 (span), .pointer (some ⟨j, 0, none⟩)] 122)) (fun s36 _ => 0)
  case atStart => exact ⟨rfl, rfl⟩
  case round =>
    obtain ⟨rfl, rfl⟩ := hrel
    go_wp2_with fail
    go_ret2
    exact ⟨j, w1.heap.size, w1.heap.size + 1, rfl, hj, hjl, by omega, hB2, hD2, hown2, hq, hm2⟩
end Go.Proofs.YthgjdaomcpinaaaGreatDoor

/- What is trusted, by heights: the store's map. -/
set_option linter.unusedSimpArgs false
set_option linter.unusedVariables false
namespace Go.Proofs.YthgjdaomcpinaaaGreatDoor
open Go.RowKit Go.WideMaps Go.Maps Go.Sort Go.Shelf Pl

/-- The value of none. -/
abbrev nilT : Value := .agg #[.int .i64 (0), .int .i64 (0), .int .i64 (0), .bool false, .string ⟨List.toArray ([])⟩, .string ⟨List.toArray ([])⟩, .string ⟨List.toArray ([])⟩, .string ⟨List.toArray ([])⟩, .string ⟨List.toArray ([])⟩, .string ⟨List.toArray ([])⟩, .slice none 0 0, .slice none 0 0, .int .i64 (0)]
theorem zeroTr (w : World) : (zeroValue 27).run Tryz.prog w = .ok nilT w := by
  have h : (Tryz.prog.info? 27).map (·.zero) = some (some nilT) := by kernel_rfl
  obtain ⟨i, hi, hz⟩ := Option.map_eq_some_iff.1 h
  simp [zeroValue, typeInfo, hi, hz]
theorem keyedI : Keyed Tryz.prog 3 := int_keyed Tryz.underlying3
theorem keyI (k : Int) (hk : -9223372036854775808 ≤ k ∧ k ≤ 9223372036854775807) : keyOf Tryz.prog 3 (.int .i64 (k)) = some (.int .i64 k) := by
  have h1 : IntKind.i64.min = -9223372036854775808 := by decide
  have h2 : IntKind.i64.max = 9223372036854775807 := by decide
  exact keyOf_int_mk Tryz.underlying3 (by simp only [Lit.wf, Bool.and_eq_true, decide_eq_true_eq, h1, h2]; exact hk)
theorem isKeyI (k : Int) : WideAt.IsKeyLit (.int .i64 k) := by first | trivial | exact ⟨_, _, rfl⟩ | simp [WideAt.IsKeyLit]
def hts (T : List (Int × Tr)) : List Int := T.map (·.1)
/-- What a map of those that are trusted holds. -/
structure TrD (w : World) (base : Nat) (D : DataW Value) (T : List (Int × Tr)) : Prop where
  has : ∀ k : Int, Maps.has D (.int .i64 k) = decide (k ∈ hts T)
  val : ∀ e ∈ T, ∃ v, D.atKey (.int .i64 e.1) (.held nilT) = .held v ∧ TRow w base v e.2
  nodup : (hts T).Nodup
  size : Maps.size D = T.length
/-- A map of those that are trusted. -/
def TrM (w : World) (base m : Nat) (T : List (Int × Tr)) : Prop := ∃ D, w.ownsMap (H := Value) Tryz.prog 3 hT m T.length D ∧ TrD w base D T
theorem TRow.keep {W w : World} {base : Nat} {v : Value} {t : Tr} (h : TRow W base v t) (hb : Below W.heap.size W w) : TRow w base v t := by
  obtain ⟨sk, ms, h1, h2, h3⟩ := h
  exact ⟨sk, ms, h1, h2.keep hb, h3.keep hb⟩
theorem TrM.nil {w : World} {base m : Nat} (h : w.ownsMap (H := Value) Tryz.prog 3 hT m 0 (.map [])) : TrM w base m [] :=
  ⟨_, h, fun k => (by rw [has_eq]; simp [hts]), fun e he => (by cases he), (by simp [hts]), rfl⟩
theorem TrM.lt {w : World} {base m : Nat} {T : List (Int × Tr)} (h : TrM w base m T) : m < w.heap.size := by
  obtain ⟨D, ho, _⟩ := h
  exact ho.lt
theorem tmap_at {H : Type} {R : Value → Option (DataW H × List MemPlace)} {W w : World} {t : TypeId} {b n : Nat} {D : DataW H} (h : W.ownsMap Tryz.prog t R b n D) (hb : w.heap[b]? = W.heap[b]?) : w.ownsMap Tryz.prog t R b n D := by
  obtain ⟨es, clock, h1, h2⟩ := h
  exact ⟨es, clock, hb.trans h1, h2⟩
theorem TrM.keep {W w : World} {base m : Nat} {T : List (Int × Tr)} (h : TrM W base m T) (hb : Below W.heap.size W w) : TrM w base m T := by
  obtain ⟨D, ho, hD⟩ := h
  exact ⟨D, tmap_at ho (hb.block m ho.lt), hD.has, fun e he => (by obtain ⟨v, h1, h2⟩ := hD.val e he; exact ⟨v, h1, h2.keep hb⟩), hD.nodup, hD.size⟩
/-- v, ok := m[k]. -/
theorem TrM.look {w : World} {base m : Nat} {T : List (Int × Tr)} (h : TrM w base m T) (k : Int) (hk : -9223372036854775808 ≤ k ∧ k ≤ 9223372036854775807) :
    ∃ v, (Instr.lookup 120 (.map (some m)) (.int .i64 (k)) true).run Tryz.prog w = .ok (.tuple #[v, .bool (decide (k ∈ hts T))]) w ∧ (∀ t, (k, t) ∈ T → TRow w base v t) ∧ (k ∉ hts T → v = nilT) := by
  obtain ⟨D, ho, hD⟩ := h
  obtain ⟨v, ps, hrun, hv⟩ := ho.look_ok keyedI Tryz.underlying120 (zeroTr w) (zd := .held nilT) (zp := []) rfl (keyI k hk)
  rw [hD.has] at hrun
  refine ⟨v, hrun, fun t ht => ?_, fun hn => ?_⟩
  · obtain ⟨u, h1, h2⟩ := hD.val (k, t) ht
    rw [h1] at hv
    rw [hT_inv hv]
    exact h2
  · rw [atKey_of_not_has (by rw [hD.has]; simpa using hn)] at hv
    exact hT_inv hv
end Go.Proofs.YthgjdaomcpinaaaGreatDoor

/- The laws of the library that the sorts lean on, at this program. -/
set_option linter.unusedVariables false
namespace Go.Proofs.YthgjdaomcpinaaaGreatDoor
open Go.Shelf

def laysCloneMap_ren : Go.Shelf.Ren := ⟨fun | 5 => 70 | 7 => 125 | n => n, fun | 23 => 120 | 25 => 3 | 3 => 27 | 4 => 4 | 20 => 20 | n => n, fun | n => n⟩
theorem laysCloneMap : Go.Proofs.SlLaysW.n5 Tryz.prog laysCloneMap_ren := {
  mixed := by kernel_rfl
  f5 := ⟨Tryz.f70.name, by decide, Tryz.func70.trans (congrArg some (by kernel_rfl))⟩
  f7 := Tryz.func125.trans (congrArg some (by kernel_rfl))
  t4 := Tryz.underlying4
  a4 := Tryz.isAgg4
  z4 := Tryz.sizeOf4
  v4 := Tryz.zeroValue4
  t20 := Tryz.underlying20
  a20 := Tryz.isAgg20
  z20 := Tryz.sizeOf20
  v20 := Tryz.zeroValue20
  t23 := Tryz.underlying120
  a23 := Tryz.isAgg120
  z23 := Tryz.sizeOf120
  v23 := Tryz.zeroValue120 }

end Go.Proofs.YthgjdaomcpinaaaGreatDoor
