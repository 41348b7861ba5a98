/- DiskA, DiskC, DiskD, Eats1. -/
import Derived.Deep.Upon
import Derived.Test.YthgjdaomcpinaaaGreatDoorMp5
set_option linter.unnecessarySimpa false
set_option linter.unusedSimpArgs false
set_option linter.unusedVariables false
set_option maxRecDepth 100000
set_option maxHeartbeats 32000000
namespace Go.Proofs.YthgjdaomcpinaaaGreatDoor
open Go.RowKit Pl
theorem run_app_grow (w : World) (av : List Nat) (va : Option Addr) (l news : Bs) (ty : TypeId) (hold : ∀ sz, sz = 1 → (Builtin.firstCells sz l.length (.slice va l.length l.length)).run Tryz.prog w.drew = .ok (bv l).toArray w.drew) (hn : news ≠ []) (hav : ∀ x ∈ av, x < w.heap.size) (hlen : l.length + news.length ≤ 140737488355328) :
  ∃ v' w', (Builtin.append_ #[113, 9] ty #[.slice va l.length l.length, .string ⟨List.toArray news⟩]).run Tryz.prog w = .ok v' w' ∧ BOwv w' av v' (l ++ news) ∧ Below w.heap.size w w' := by
 obtain ⟨i0, hi, hz0, hz1, hz2⟩ := info_parts infoU8
 have hz := bs_size news
 have hsrc := Src.ofString (P := Tryz.prog) w (tx := 9) Tryz.underlying9 ⟨news.toArray⟩
 rw [hz, ← hz1] at hsrc
 have hnl : (byteCells ⟨news.toArray⟩).length = news.length := by rw [byteCells_length, hz]
 have hnp : 0 < news.length := List.length_pos_iff.2 hn
 obtain ⟨cap, hcap⟩ : ∃ c, c = l.length := ⟨_, rfl⟩
 have hroom : ¬ l.length + news.length ≤ cap := by omega
 rw [show Value.slice va l.length l.length = Value.slice va l.length cap from by rw [hcap]]
 have hge := grownCap_ge w (l.length + news.length) cap 5
 have hle := grownCap_le_maxLen w (l.length + news.length) cap 5 (by unfold maxLen; omega)
 have hr := run_append_grow_src (P := Tryz.prog) w 113 9 ty 5 i0 (.int .u8 0) Tryz.underlying113 hi hz0 va l.length cap (bv l) (by rw [hz1, hcap]; exact hold 1 rfl) _ news.length _ hsrc (by omega) (by omega) (by
   rw [hz2]
   have := nextslicecap_le (show cap < l.length + news.length by omega)
   omega)
 refine ⟨_, _, hr, ⟨w.heap.size, _, by rw [List.length_append], fun hi => Nat.lt_irrefl _ (hav _ hi), by simp, by rw [List.length_append]; exact hge, hle, fun i hi => ?_, fun i hi => ⟨?_, ?_⟩⟩, ?_⟩
 ·have hx : ((bv l ++ byteCells ⟨news.toArray⟩).toArray ++ Builtin.zeroCells (Value.int .u8 0).cells (grownCap w (l.length + news.length) cap 5 - (l.length + news.length)))[i]? = some (.int .u8 (((l ++ news).getD i 0).toNat : Int)) := by
   rw [List.length_append] at hi
   rw [Array.getElem?_append_left (by simp [bv_len, hnl]; omega)]
   simp only [List.getElem?_toArray]
   by_cases hil : i < l.length
   ·rw [List.getElem?_append_left (by rw [bv_len]; exact hil)]
    simp [bv, List.getD, List.getElem?_eq_getElem hil, List.getElem?_append_left hil]
   ·obtain ⟨j, rfl⟩ : ∃ j, i = l.length + j := ⟨i - l.length, by omega⟩
    rw [List.getElem?_append_right (by rw [bv_len]; omega), bv_len, Nat.add_sub_cancel_left, bcells_at news j (by omega)]
    simp [List.getD, List.getElem?_append_right]
  exact (Blk.new w.drew _ 5).cell i |>.trans hx
 ·have hx : i < ((bv l ++ byteCells ⟨news.toArray⟩).toArray ++ Builtin.zeroCells (Value.int .u8 0).cells (grownCap w (l.length + news.length) cap 5 - (l.length + news.length))).size := by
   simp [bv_len, hnl, size_zeroCells, Value.cells]
   omega
  show ((w.drew.alloc _).cell? ⟨w.drew.heap.size, i, none⟩).isSome = true
  rw [(Blk.new w.drew _ 5).cell i, Array.getElem?_eq_getElem hx]
  rfl
 ·exact (Blk.new w.drew _ 5).froz i
 ·exact (Below.refl _ _).drew.alloc (Nat.le_refl _) _
theorem run_app_db (w : World) (av : List Nat) (va : Option Addr) (c0 : Nat) (l news : Bs) (ty : TypeId) (h : DB w av (.slice va l.length c0) l) (hav : ∀ x ∈ av, x < w.heap.size) (hlen : l.length + news.length ≤ 140737488355328) :
  ∃ v' w', (Builtin.append_ #[113, 9] ty #[.slice va l.length l.length, .string ⟨List.toArray news⟩]).run Tryz.prog w = .ok v' w' ∧ DB w' av v' (l ++ news) ∧ Below w.heap.size w w' := by
 by_cases hn : news = []
 ·subst hn
  obtain ⟨i0, hi, hz0, hz1, hz2⟩ := info_parts infoU8
  have hsrc := Src.ofString (P := Tryz.prog) w (tx := 9) Tryz.underlying9 ⟨([] : Bs).toArray⟩
  have hS : Src Tryz.prog i0.size 9 (.string ⟨List.toArray []⟩) 0 [] w := by
   rw [hz1]
   exact hsrc
  refine ⟨_, w, run_append_nothing (P := Tryz.prog) w 113 9 ty 5 i0 Tryz.underlying113 hi va l.length l.length (Nat.le_refl _) _ hS, ?_, Below.refl _ _⟩
  rw [List.append_nil]
  rcases h with ⟨e1, e2⟩ | ⟨g, cap, e1, h2, h3, h4, h5, h6, h7⟩
  ·left
   subst e2
   injection e1 with e1 _ _
   subst e1
   exact ⟨rfl, rfl⟩
  ·right
   injection e1 with e1 _ e3
   subst e1 e3
   exact ⟨g, l.length, rfl, h2, h3, Nat.le_refl _, by omega, h6, fun i hi => h7 i (by omega)⟩
 ·have hold : ∀ sz, sz = 1 → (Builtin.firstCells sz l.length (.slice va l.length l.length)).run Tryz.prog w.drew = .ok (bv l).toArray w.drew := by
   rintro sz rfl
   rcases h with ⟨e1, e2⟩ | ⟨g, cap, e1, h2, h3, h4, h5, h6, h7⟩
   ·subst e2
    injection e1 with e1 _ _
    subst e1
    exact run_firstCells_none (P := Tryz.prog) w.drew 1 _ _ _
   ·injection e1 with e1 _ _
    subst e1
    refine run_firstCells_some (P := Tryz.prog) w.drew 1 l.length ⟨g, 0, none⟩ l.length l.length (bv l) (by rw [bv_len]; omega) (fun j u hu => ?_)
    have hj : j < l.length := by
     have := (List.getElem?_eq_some_iff.1 hu).1
     rw [bv_len] at this; exact this
    rw [Addr.add_lit, Nat.zero_add]
    refine (h6 j hj).trans ?_
    rw [← hu]
    simp [bv, List.getD, List.getElem?_eq_getElem hj]
  obtain ⟨v', w', hr, h1, h2⟩ := run_app_grow w av va l news ty hold hn hav hlen
  exact ⟨v', w', hr, .inr h1, h2⟩
section
variable {ops : Array Oper} {o : Oper} {rest : List Oper} {a : Act} {w : World} {Q : Exit → Act → World → Prop}
theorem wpList_appD (hgd : o.guard = none) (s x : Operand)
  (ho : o.op = .call { callee := .builtin .append, args := #[s, x], argTypes := #[113, 9] })
  (av : List Nat) (va : Option Addr) (c0 : Nat) (l : Bs) (hs : a.eval s = .slice va l.length l.length) (hown : DB w av (.slice va l.length c0) l) (news : Bs) (hx : a.eval x = .string ⟨List.toArray news⟩)
  (hlen : l.length + news.length ≤ 140737488355328) (hav : ∀ x ∈ av, x < w.heap.size)
  (h : ∀ v' w', DB w' av v' (l ++ news) → Below w.heap.size w w' → wpList Tryz.prog ops Q rest (a.put o.dst v') w') : wpList Tryz.prog ops Q (o :: rest) a w := by
 refine wpList_plain hgd fun K hK => ?_
 obtain ⟨v', w', hr, h2, h3⟩ := run_app_db w av va c0 l news o.type hown hav hlen
 unfold Oper.wp execOp
 simp only [ho, resolve, invoke, builtin, Sem.run_bind, Sem.run_pure, Result.andThen_ok, List.map_toArray, List.map_cons, List.map_nil, hs, hx, hr]
 exact hK _ _ (h v' w' h2 h3)
end
namespace Pl
def appD (d : Dk) (t : Bs) : Dk × Int :=
 if d.down then (d, 311) else if d.room - (d.s.length : Int) < (t.length : Int) then (d, 310)
 else if (burntD d).2 = 0 then (⟨d.s ++ t, d.safe, d.room, (burntD d).1.fuse, d.down⟩, 0) else burntD d
theorem burnt_same {d : Dk} (h0 : (burntD d).2 = 0) : (burntD d).1.s = d.s ∧ (burntD d).1.room = d.room ∧ (burntD d).1.down = d.down ∧ (burntD d).1.safe = d.safe := by
 unfold burntD at h0 ⊢
 split
 ·rename_i h1; rw [if_pos h1] at h0; exact absurd h0 (by simp)
 ·split <;> exact ⟨rfl, rfl, rfl, rfl⟩
end Pl
theorem dappend_any (av : List Nat) (p : Nat) (d : Dk) (t : Bs) (hf : -9223372036854775808 ≤ d.fuse ∧ d.fuse ≤ 9223372036854775807) (hrm : 0 ≤ d.room ∧ d.room ≤ 1048576) (hsl : d.s.length ≤ 1048576) (htl : t.length ≤ 100000000) (w : World) (h : DkV w av p d) (hav : ∀ x ∈ av, x < w.heap.size) :
  Calls Tryz.prog 156 #[.pointer (some ⟨p, 0, none⟩), .string ⟨List.toArray t⟩] w fun e w' => e = .returned (.int .i64 ((appD d t).2)) ∧ DkV w' av p (appD d t).1 ∧ Mod [p] w w' := by
 have hch := fun W (h : DkV W av p d) => dchange_any av p d hf W h
 have H := Lib.hid h
 obtain ⟨v, hv, B⟩ := h.row
 obtain ⟨va, vc, rfl⟩ := hv.form
 have hbs := fun h0 => burnt_same (d := d) h0
 have HA : Hid (appD d t = if d.down then (d, 311) else if d.room - (d.s.length : Int) < (t.length : Int) then (d, 310) else if (burntD d).2 = 0 then (⟨d.s ++ t, d.safe, d.room, (burntD d).1.fuse, d.down⟩, 0) else burntD d) := Lib.hid rfl
 generalize appD d t = R at *
 generalize burntD d = x at *
 obtain ⟨d1, c⟩ := x
 simp only at hch hbs
 have HBS := Lib.hid hbs
 have w1 : IntKind.i64.wrap (d.room - (d.s.length : Int)) = d.room - (d.s.length : Int) := by rw [IntKind.wrap_i64]; omega
 obtain ⟨b1, b2, b3⟩ := id B
 clear hbs hv h
 cases hd : d.down
 ·rw [hd] at b1
  have HD := Lib.hid hd
  clear hd
  by_cases hr : d.room - (d.s.length : Int) < (t.length : Int)
  ·have g1 : decide (d.room - (d.s.length : Int) < (t.length : Int)) = true := by simpa using hr
   have HR : Hid (R = (d, 310)) := Lib.hid (by rw [HA.out, HD.out, if_neg (by decide), if_pos hr])
   clear hr HA hch
   go_enter Tryz.func156, Tryz.ntmps156
   go_wp2_with fail
   go_quiet (fail)
   go_wp2_with fail
   go_ret
   rw [HR.out]
   exact ⟨rfl, H.out.keep (below_drewN (Below.refl _ _) _), (Mod.refl _ _).drewN _⟩
  ·have g1 : decide (d.room - (d.s.length : Int) < (t.length : Int)) = false := by simpa using hr
   have HR : Hid (R = if c = 0 then (⟨d.s ++ t, d.safe, d.room, d1.fuse, d.down⟩, 0) else (d1, c)) := Lib.hid (by rw [HA.out, HD.out, if_neg (by decide), if_neg hr])
   clear hr HA
   have hch2 := fun n => hch _ (H.out.keep (below_drewN (Below.refl w.heap.size w) n))
   clear hch
   go_enter Tryz.func156, Tryz.ntmps156
   go_wp2_with fail
   go_quiet (fail)
   go_wp2_with fail
   refine (hch2 _).mono ?_
   rintro e w2 ⟨rfl, h1, m1⟩
   have mm := ((Mod.refl [p] w).drewN _).trans m1
   clear b1 b2 b3 hch2 m1 B
   obtain ⟨v1, hv1, B1⟩ := h1.row
   have HL := Lib.hid h1.lt
   obtain ⟨va1, vc1, rfl⟩ := hv1.form
   have H1 := Lib.hid h1
   have hbw := fun x (hx : x ∈ av) => Nat.lt_of_lt_of_le (hav x hx) mm.size
   clear h1
   by_cases h0 : c = 0
   ·subst h0
    obtain ⟨e1, e2, e3, e4⟩ := HBS.out rfl
    have HR2 : Hid (R = (⟨d.s ++ t, d.safe, d.room, d1.fuse, d.down⟩, 0)) := Lib.hid (by rw [HR.out]; rfl)
    have hs1 : d1.s.length ≤ 1048576 := by rw [e1]; exact hsl
    have HE := Lib.hid (And.intro e1 (And.intro e2 (And.intro e3 e4)))
    have HV1 := Lib.hid hv1
    clear e1 e2 e3 e4 HR HBS
    rcases hv1 with ⟨hz1, hz2⟩ | ⟨g, cap, hz, hg1, hg2, hg3, hg4, _, _⟩
    ·injection hz1 with hz1 _ hz3
     subst hz1 hz3
     obtain ⟨ds1, sf1, rm1, fu1, dn1⟩ := d1
     simp only at hz2 HV1 B1 HE HR2 hs1
     subst hz2
     have B1 : Blk w2 p #[.slice none 0 0, .int .i64 sf1, .int .i64 rm1, .int .i64 fu1, .bool dn1] := B1
     obtain ⟨b1, b2, b3⟩ := id B1
     go_wp2_with (first
      | (at_builtin; refine wpList_appD rfl (.tmp 41) (.tmp 42) rfl av none 0 [] rfl HV1.out t rfl (by simp; omega) hbw ?_; intro v3 w3 hv3 hb3; obtain ⟨va3, vc3, rfl⟩ : ∃ a c, v3 = .slice a t.length c := (by have := hv3.form; rwa [List.nil_append] at this); have B3 := B1.keep hb3; obtain ⟨k1, k2, k3⟩ := id B3)
      | fail)
     go_ret
     have hm := (Mod.refl [p] w3).setCell (p := ⟨p, 0, none⟩) (.inl (by simp)) (.slice va3 t.length vc3)
     rw [HR2.out]
     obtain ⟨e1, e2, e3, e4⟩ := HE.out
     refine ⟨rfl, ⟨HL.out, .slice va3 t.length vc3, ?_, ?_⟩, (mm.trans (Mod.of_below hb3)).trans hm⟩
     ·have := hv3.mod hm HL.out
      rw [e1] at this
      exact this
     ·have := B3.set 0 (.slice va3 t.length vc3)
      rw [← e2, ← e3, ← e4]
      simpa using this
    ·injection hz with hz1 _ hz3
     subst hz1 hz3
     have hcp : (d1.s.length : Int) ≤ (vc1 : Int) := by omega
     obtain ⟨b1, b2, b3⟩ := id B1
     go_wp2_with (first
      | (at_builtin; refine wpList_appD rfl (.tmp 41) (.tmp 42) rfl av (some ⟨g, 0, none⟩) vc1 d1.s (by go_simp; try rfl) HV1.out t rfl (by omega) hbw ?_; intro v3 w3 hv3 hb3; obtain ⟨va3, vc3, rfl⟩ : ∃ a c, v3 = .slice a (d1.s.length + t.length) c := (by have := hv3.form; rwa [List.length_append] at this); have B3 := B1.keep hb3; obtain ⟨k1, k2, k3⟩ := id B3)
      | fail)
     go_ret
     have hm := (Mod.refl [p] w3).setCell (p := ⟨p, 0, none⟩) (.inl (by simp)) (.slice va3 (d1.s.length + t.length) vc3)
     rw [HR2.out]
     obtain ⟨e1, e2, e3, e4⟩ := HE.out
     refine ⟨rfl, ⟨HL.out, .slice va3 (d1.s.length + t.length) vc3, ?_, ?_⟩, (mm.trans (Mod.of_below hb3)).trans hm⟩
     ·have := hv3.mod hm HL.out
      rw [e1] at this ⊢
      exact this
     ·have := B3.set 0 (.slice va3 (d1.s.length + t.length) vc3)
      rw [← e2, ← e3, ← e4]
      simpa using this
   ·have g2 : (c == 0) = false := by simpa using h0
    have g3 : (c != 0) = true := by simpa using h0
    have HR2 : Hid (R = (d1, c)) := Lib.hid (by rw [HR.out, if_neg h0])
    clear h0 HR HBS
    go_wp2_with fail
    go_ret
    rw [HR2.out]
    exact ⟨rfl, H1.out, mm⟩
 ·rw [hd] at b1
  have HR : Hid (R = (d, 311)) := Lib.hid (by rw [HA.out, hd]; rfl)
  clear hd HA hch B
  go_enter Tryz.func156, Tryz.ntmps156
  go_wp2_with fail
  go_ret
  rw [HR.out]
  exact ⟨rfl, H.out, Mod.refl _ _⟩
end Go.Proofs.YthgjdaomcpinaaaGreatDoor
namespace Go.Proofs.YthgjdaomcpinaaaGreatDoor
open Go.RowKit Pl
namespace Pl
def fuseD (d : Dk) (n : Int) : Dk := ⟨d.s, d.safe, d.room, max n (-1), d.down⟩
def crashN (d : Dk) (keep : Int) : Int := d.safe + min (max keep 0) ((d.s.length : Int) - d.safe)
def crashD (d : Dk) (keep : Int) : Dk := ⟨d.s.take (crashN d keep).toNat, crashN d keep, d.room, -1, false⟩
end Pl
theorem DB.take {w : World} {av : List Nat} {va : Option Addr} {c : Nat} {l : Bs} (h : DB w av (.slice va l.length c) l) {n : Nat} (hn : n ≤ l.length) : DB w av (.slice va n n) (l.take n) := by
 rcases h with ⟨e1, e2⟩ | ⟨g, cap, h1, h2, h3, h4, h5, h6, h7⟩
 ·subst e2
  injection e1 with e1 _ e3
  obtain rfl : n = 0 := by simpa using hn
  subst e1
  exact .inl ⟨rfl, rfl⟩
 ·injection h1 with h1 _ h1c
  subst h1 h1c
  have hl : (l.take n).length = n := by rw [List.length_take]; omega
  refine .inr ⟨g, n, by rw [hl], h2, h3, by omega, by omega, fun i hi => ?_, fun i hi => h7 i (by omega)⟩
  rw [hl] at hi
  rw [h6 i (by omega)]
  simp [List.getD, List.getElem?_take, hi]
theorem dfuse_any (av : List Nat) (p : Nat) (d : Dk) (n : Int) (w : World) (h : DkV w av p d) :
  Calls Tryz.prog 19 #[.pointer (some ⟨p, 0, none⟩), .int .i64 n] w fun e w' => e = .returned (.tuple #[]) ∧ DkV w' av p (fuseD d n) ∧ Mod [p] w w' := by
 obtain ⟨v, hv, B⟩ := h.row
 have HL := Lib.hid h.lt
 have HV := Lib.hid hv
 clear h hv
 obtain ⟨b1, b2, b3⟩ := id B
 go_enter Tryz.func19, Tryz.ntmps19
 go_wp2_with fail
 refine bodyPost_end (results_none rfl _ _ _) rfl ?_
 have hm := (Mod.refl [p] w).setCell (p := ⟨p, 3, none⟩) (.inl (by simp)) (.int .i64 (max n (-1)))
 exact ⟨rfl, ⟨HL.out, v, HV.out.mod hm HL.out, by simpa [fuseD] using B.set 3 (.int .i64 (max n (-1)))⟩, hm⟩
theorem crash_end {w : World} {av : List Nat} {p : Nat} {v0 vs : Value} {a1 a2 a3 : Value} {room : Int} {l : Bs} {n : Nat} (hp : p ∈ av) (hv : DB w av vs l) (B : Blk w p #[v0, a1, .int .i64 room, a2, a3]) (nq : Nat) :
  DkV (((((w.drewN nq).setCell ⟨p, 0, none⟩ vs).setCell ⟨p, 1, none⟩ (.int .i64 ((n : Int)))).setCell ⟨p, 3, none⟩ (.int .i64 (-1))).setCell ⟨p, 4, none⟩ (.bool false)) av p ⟨l, (n : Int), room, -1, false⟩ ∧ Mod [p] w (((((w.drewN nq).setCell ⟨p, 0, none⟩ vs).setCell ⟨p, 1, none⟩ (.int .i64 ((n : Int)))).setCell ⟨p, 3, none⟩ (.int .i64 (-1))).setCell ⟨p, 4, none⟩ (.bool false)) := by
 have hm := (((((Mod.refl [p] w).drewN nq).setCell (p := ⟨p, 0, none⟩) (.inl (by simp)) vs).setCell (p := ⟨p, 1, none⟩) (.inl (by simp)) (.int .i64 ((n : Int)))).setCell (p := ⟨p, 3, none⟩) (.inl (by simp)) (.int .i64 (-1))).setCell (p := ⟨p, 4, none⟩) (.inl (by simp)) (.bool false)
 exact ⟨⟨hp, vs, hv.mod hm hp, by simpa using ((((B.drewN nq).set 0 vs).set 1 (.int .i64 ((n : Int)))).set 3 (.int .i64 (-1))).set 4 (.bool false)⟩, hm⟩
theorem dcrash_any (av : List Nat) (p : Nat) (d : Dk) (keep : Int) (hs : 0 ≤ d.safe ∧ d.safe ≤ (d.s.length : Int)) (hsl : d.s.length ≤ 1048576) (w : World) (h : DkV w av p d) :
  Calls Tryz.prog 26 #[.pointer (some ⟨p, 0, none⟩), .int .i64 keep] w fun e w' => e = .returned (.tuple #[]) ∧ DkV w' av p (crashD d keep) ∧ Mod [p] w w' := by
 obtain ⟨v, hv, B⟩ := h.row
 have HL := Lib.hid h.lt
 obtain ⟨va, vc, rfl⟩ := hv.form
 have HV := Lib.hid hv
 obtain ⟨n, hn⟩ : ∃ n : Nat, (n : Int) = crashN d keep := ⟨(crashN d keep).toNat, by unfold crashN; omega⟩
 have hnl : n ≤ d.s.length := by unfold crashN at hn; omega
 have HR : Hid (crashD d keep = ⟨d.s.take n, (n : Int), d.room, -1, false⟩) := Lib.hid (by unfold crashD; rw [← hn]; rfl)
 have hcap : d.s.length ≤ vc := by
  rcases hv with ⟨e1, e2⟩ | ⟨g, cap, h1, h2, h3, h4, h5, _⟩
  ·rw [e2]; simp
  ·injection h1 with _ _ h1c; subst h1c; exact h4
 have w1 : IntKind.i64.wrap ((d.s.length : Int) - d.safe) = (d.s.length : Int) - d.safe := by rw [IntKind.wrap_i64]; omega
 have w2 : IntKind.i64.wrap (d.safe + min (max keep 0) ((d.s.length : Int) - d.safe)) = (n : Int) := by unfold crashN at hn; rw [IntKind.wrap_i64]; omega
 have n1 : (0 : Int) ≤ (n : Int) ∧ (n : Int) ≤ (vc : Int) := by omega
 obtain ⟨b1, b2, b3⟩ := id B
 have hv2 := HV.out.take hnl
 clear h hv hn
 have hva : va = none ∨ ∃ g, va = some ⟨g, 0, none⟩ := by
  rcases HV.out with ⟨e1, e2⟩ | ⟨g, cap, h1, _⟩
  ·injection e1 with e1; exact .inl e1
  ·injection h1 with h1; exact .inr ⟨g, h1⟩
 have HB := Lib.hid B
 clear B
 rcases hva with rfl | ⟨g, rfl⟩
 all_goals
  go_enter Tryz.func26, Tryz.ntmps26
  go_wp2_with fail
  go_quiet (fail)
  go_wp2_with fail
  refine bodyPost_end (results_none rfl _ _ _) rfl ?_
  rw [HR.out]
  exact ⟨rfl, crash_end HL.out hv2 HB.out nq⟩
end Go.Proofs.YthgjdaomcpinaaaGreatDoor
namespace Go.Proofs.YthgjdaomcpinaaaGreatDoor
open Go.RowKit Pl
namespace Pl
def cutD (d : Dk) (n : Nat) : Dk × Int := if d.down then (d, 311) else if (burntD d).2 = 0 then (⟨d.s.take n, min d.safe (n : Int), d.room, (burntD d).1.fuse, d.down⟩, 0) else burntD d
end Pl
theorem cut_end {w : World} {av : List Nat} {p : Nat} {v0 vs : Value} {sf : Int} {a2 a3 a4 : Value} {l : Bs} {n : Nat} {room fuse : Int} {down : Bool} (hp : p ∈ av) (hv : DB w av vs l) (B : Blk w p #[v0, .int .i64 sf, .int .i64 room, .int .i64 fuse, .bool down]) (x : Int) :
  DkV ((w.setCell ⟨p, 0, none⟩ vs).setCell ⟨p, 1, none⟩ (.int .i64 x)) av p ⟨l, x, room, fuse, down⟩ ∧ Mod [p] w ((w.setCell ⟨p, 0, none⟩ vs).setCell ⟨p, 1, none⟩ (.int .i64 x)) := by
 have hm := ((Mod.refl [p] w).setCell (p := ⟨p, 0, none⟩) (.inl (by simp)) vs).setCell (p := ⟨p, 1, none⟩) (.inl (by simp)) (.int .i64 x)
 exact ⟨⟨hp, vs, hv.mod hm hp, by simpa using (B.set 0 vs).set 1 (.int .i64 x)⟩, hm⟩
theorem dcut_any (av : List Nat) (p : Nat) (d : Dk) (n : Nat) (hn : n ≤ d.s.length) (hf : -9223372036854775808 ≤ d.fuse ∧ d.fuse ≤ 9223372036854775807) (hsl : d.s.length ≤ 1048576) (w : World) (h : DkV w av p d) :
  Calls Tryz.prog 123 #[.pointer (some ⟨p, 0, none⟩), .int .i64 n] w fun e w' => e = .returned (.int .i64 ((cutD d n).2)) ∧ DkV w' av p (cutD d n).1 ∧ Mod [p] w w' := by
 have hch := dchange_any av p d hf w h
 have H := Lib.hid h
 obtain ⟨v, hv, B⟩ := h.row
 obtain ⟨va, vc, rfl⟩ := hv.form
 obtain ⟨b1, b2, b3⟩ := id B
 cases hd : d.down
 ·have hbs := fun h0 => burnt_same (d := d) h0
  have HS : Hid (cutD d n = if (burntD d).2 = 0 then (⟨d.s.take n, min d.safe (n : Int), d.room, (burntD d).1.fuse, d.down⟩, 0) else burntD d) := Lib.hid (by unfold cutD; rw [hd]; rfl)
  generalize cutD d n = R at *
  rw [hd] at b1
  have g1 : decide ((n : Int) < 0) = false := by rw [decide_eq_false_iff_not]; omega
  have g2 : decide ((d.s.length : Int) < (n : Int)) = false := by rw [decide_eq_false_iff_not]; omega
  generalize burntD d = x at *
  obtain ⟨d1, c⟩ := x
  simp only at hch hbs
  have HBS := Lib.hid hbs
  have HD := Lib.hid hd
  clear hbs hd h hv B
  go_enter Tryz.func123, Tryz.ntmps123
  go_wp2_with fail
  refine hch.mono ?_
  rintro e w1 ⟨rfl, h1, m1⟩
  clear b1 b2 b3 hch
  obtain ⟨v1, hv1, B1⟩ := h1.row
  obtain ⟨va1, vc1, rfl⟩ := hv1.form
  have H1 := Lib.hid h1
  by_cases h0 : c = 0
  ·subst h0
   obtain ⟨e1, e2, e3, e4⟩ := HBS.out rfl
   have hn1 : n ≤ d1.s.length := by rw [e1]; exact hn
   have hv2 := hv1.take hn1
   have HR : Hid (R = (⟨d1.s.take n, min d1.safe (n : Int), d1.room, d1.fuse, d1.down⟩, 0)) := Lib.hid (by rw [HS.out, if_pos rfl, ← e1, ← e2, ← e3, ← e4])
   have hcap : d1.s.length ≤ vc1 := by
    rcases hv1 with ⟨x1, x2⟩ | ⟨g, cap, x1, x2, x3, x4, _⟩
    ·rw [x2]; simp
    ·injection x1 with _ _ x1c; subst x1c; exact x4
   have hva : va1 = none ∨ ∃ g, va1 = some ⟨g, 0, none⟩ := by
    rcases hv1 with ⟨x1, x2⟩ | ⟨g, cap, x1, _⟩
    ·injection x1 with x1; exact .inl x1
    ·injection x1 with x1; exact .inr ⟨g, x1⟩
   have n1 : (0 : Int) ≤ (n : Int) ∧ (n : Int) ≤ (vc1 : Int) := by omega
   have HB := Lib.hid B1
   have HL := Lib.hid h1.lt
   obtain ⟨b1, b2, b3⟩ := id B1
   clear e1 e2 e3 e4 HS HBS h1 hv1 B1
   rcases hva with rfl | ⟨g, rfl⟩
   all_goals
    go_wp2_with fail
    go_ret
    rw [HR.out]
    have hh := cut_end HL.out hv2 HB.out (min d1.safe (n : Int)) (a2 := .bool true) (a3 := .bool true) (a4 := .bool true) (n := 0)
    exact ⟨rfl, hh.1, m1.trans hh.2⟩
  ·have k1 : (c == 0) = false := by simpa using h0
   have k2 : (c != 0) = true := by simpa using h0
   have HR : Hid (R = (d1, c)) := Lib.hid (by rw [HS.out, if_neg h0])
   clear h0 HS HBS h1 hv1 B1
   go_wp2_with fail
   go_ret
   rw [HR.out]
   exact ⟨rfl, H1.out, m1⟩
 ·have HS : Hid (cutD d n = (d, 311)) := Lib.hid (by unfold cutD; rw [hd]; rfl)
  rw [hd] at b1
  clear hd h hv B hch
  go_enter Tryz.func123, Tryz.ntmps123
  go_wp2_with fail
  go_ret
  rw [HS.out]
  exact ⟨rfl, H.out, Mod.refl _ _⟩
end Go.Proofs.YthgjdaomcpinaaaGreatDoor
namespace Go.Proofs.YthgjdaomcpinaaaGreatDoor
namespace Pl
theorem digs_be : ∀ (f : Nat) (l : Bs), l.length ≤ f → (l.headD 1 ≠ 0) → digs f (be l) = l
 | 0, l, h, _ => by
  have : l = [] := List.length_eq_zero_iff.1 (by omega)
  subst this; rfl
 | f + 1, l, h, h0 => by
  rcases List.eq_nil_or_concat l with rfl | ⟨r, c, rfl⟩
  ·simp [be, digs]
  ·rw [List.concat_eq_append] at *
   have hp : 0 < be (r ++ [c]) := by
    cases r with
    | nil =>
     simp at h0
     have : c.toNat ≠ 0 := fun e => h0 (by rw [← UInt8.toNat_inj]; exact e)
     simp [be]; omega
    | cons a q =>
     simp at h0
     have h1 : a.toNat ≠ 0 := fun e => h0 (by rw [← UInt8.toNat_inj]; exact e)
     rw [List.cons_append, be_cons]
     have : 1 * 256 ^ (q ++ [c]).length ≤ a.toNat * 256 ^ (q ++ [c]).length := Nat.mul_le_mul_right _ (by omega)
     have := Nat.pow_pos (n := (q ++ [c]).length) (show 0 < 256 by omega)
     omega
   rw [digs_step f _ hp, be_snoc]
   have hc := c.toNat_lt
   rw [show (be r * 256 + c.toNat) / 256 = be r from by omega, show (be r * 256 + c.toNat) % 256 = c.toNat from by omega]
   rw [digs_be f r (by simp at h; omega) (by
    cases r with
    | nil => simp
    | cons a q => simpa using h0)]
   simp
theorem take_eats (s : Bs) (h : (take s).2.2 = 0) : s = num (take s).1 ++ (take s).2.1 := by
 cases s with
 | nil => exact absurd h (by decide)
 | cons k r =>
  unfold take at h ⊢
  simp only at h ⊢
  split at h
  ·exact absurd h (by decide)
  ·rename_i h8
   split at h
   ·exact absurd h (by decide)
   ·rename_i hr
    split at h
    ·exact absurd h (by decide)
    ·rename_i hz
     rw [if_neg h8, if_neg hr, if_neg hz]
     have hl : (r.take k.toNat).length = k.toNat := by simp; omega
     have hd : digs 8 (be (r.take k.toNat)) = r.take k.toNat := digs_be 8 _ (by omega) (by
      cases hk : k.toNat with
      | zero => simp
      | succ n =>
       cases r with
       | nil => simp at hr; omega
       | cons a q =>
        simp
        intro e
        exact hz (.inl ⟨by omega, by simp [e]⟩))
     simp only [num, hd, hl]
     rw [List.cons_append, List.take_append_drop]
     simp
theorem tx_eats (s : Bs) (most : Int) (h : (tx s most).2.2 = 0) : s = text (tx s most).1 ++ (tx s most).2.1 ∧ ((tx s most).1.length : Int) ≤ most := by
 unfold tx at h ⊢
 split at h
 ·rename_i h1; exact absurd h h1
 ·rename_i h1
  split at h
  ·exact absurd h (by decide)
  ·rename_i h2
   split at h
   ·exact absurd h (by decide)
   ·rename_i h3
    rw [if_neg h1, if_neg h2, if_neg h3]
    have ht := take_eats s (by simpa using h1)
    have hl : ((take s).2.1.take (take s).1).length = (take s).1 := by simp; omega
    refine ⟨?_, by simp only [hl]; omega⟩
    simp only [text, hl]
    rw [List.append_assoc, List.take_append_drop]
    exact ht
theorem mText_eats (s : Bs) (c most : Int) (h : (mText s c most).2.2 = 0) : c = 0 ∧ s = text (mText s c most).1 ++ (mText s c most).2.1 ∧ ((mText s c most).1.length : Int) ≤ most := by
 unfold mText at h ⊢
 split at h
 ·rename_i h1; exact absurd h h1
 ·rename_i h1
  split at h
  ·rename_i h2; exact absurd h h2
  ·rename_i h2
   rw [if_neg h1, if_neg h2]
   have := tx_eats s most (by simpa using h2)
   exact ⟨by simpa using h1, this⟩
theorem mBytes_eats (s : Bs) (c : Int) (n : Nat) (h : (mBytes s c n).2.2 = 0) : c = 0 ∧ s = (mBytes s c n).1 ++ (mBytes s c n).2.1 ∧ (mBytes s c n).1.length = n := by
 unfold mBytes at h ⊢
 split at h
 ·rename_i h1; exact absurd h h1
 ·rename_i h1
  split at h
  ·exact absurd h (by simp)
  ·rename_i h2
   split at h
   ·exact absurd h (by simp)
   ·rename_i h3
    rw [if_neg h1, if_neg h2, if_neg h3]
    refine ⟨by simpa using h1, by simp, by simp; omega⟩
end Pl
end Go.Proofs.YthgjdaomcpinaaaGreatDoor
