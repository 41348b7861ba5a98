/- Texts, NodeW, GrowP, HeadP, Members, MVal, IntV. -/
import Derived.Test.YthkpmlfaddlieaaGreatDoorMs5
set_option linter.unnecessarySimpa false
set_option linter.unusedSimpArgs false
set_option linter.unusedVariables false
set_option maxRecDepth 100000
set_option maxHeartbeats 32000000
namespace Go.Proofs.YthkpmlfaddlieaaGreatDoor
open Go.RowKit Pl
def SS (w : World) (v : Value) (l : List Bs) : Prop :=
 ∃ a cap, v = .slice a l.length cap ∧ l.length ≤ cap ∧ cap ≤ maxLen ∧ (l ≠ [] → ∃ g off, a = some ⟨g, off, none⟩ ∧ g < w.heap.size ∧ SSrc w g off l)
theorem SS.nil (w : World) : SS w (.slice none 0 0) [] := ⟨none, 0, rfl, Nat.le_refl _, by unfold maxLen; omega, fun h => absurd rfl h⟩
theorem SS.of {w : World} {g off cap : Nat} {l : List Bs} (h1 : l.length ≤ cap) (h2 : cap ≤ maxLen) (h3 : g < w.heap.size) (h4 : SSrc w g off l) : SS w (.slice (some ⟨g, off, none⟩) l.length cap) l :=
 ⟨_, cap, rfl, h1, h2, fun _ => ⟨g, off, rfl, h3, h4⟩⟩
theorem SRow.ss {w : World} {base : Nat} {v : Value} {l : List Bs} (h : SRow w base v l) : SS w v l := by
 rcases h.cells with ⟨rfl, rfl⟩ | ⟨g, cap, rfl, h2, h3, h4, h5, h6, h7⟩
 ·exact SS.nil w
 ·exact SS.of h4 h5 h3 (fun i hi => by rw [Nat.zero_add]; exact h6 i hi)
theorem SS.keep {W w : World} {v : Value} {l : List Bs} (h : SS W v l) (hb : Below W.heap.size W w) : SS w v l := by
 obtain ⟨a, cap, h1, h2, h3, h4⟩ := h
 refine ⟨a, cap, h1, h2, h3, fun hl => ?_⟩
 obtain ⟨g, off, e, hg, hc⟩ := h4 hl
 exact ⟨g, off, e, Nat.lt_of_lt_of_le hg hb.size, fun i hi => (hb.cell (p := ⟨g, off + i, none⟩) hg).trans (hc i hi)⟩
theorem SS.form {w : World} {v : Value} {l : List Bs} (h : SS w v l) : ∃ a c, v = .slice a l.length c := by
 obtain ⟨a, cap, h1, _⟩ := h
 exact ⟨a, cap, h1⟩
theorem SS.small {w : World} {v : Value} {l : List Bs} (h : SS w v l) : l.length ≤ 9223372036854775807 := by
 obtain ⟨a, cap, h1, h2, h3, _⟩ := h
 unfold maxLen at h3; omega
theorem SRow.keep {W w : World} {b : Nat} {v : Value} {l : List Bs} (h : SRow W b v l) (hb : Below W.heap.size W w) : SRow w b v l := by
 refine h.kept (fun k hk => hb.block k ?_)
 rcases h.cells with ⟨rfl, _⟩ | ⟨g, cap, rfl, _, hg, _⟩
 ·cases hk
 ·cases hk; exact hg
theorem SS.at' {w : World} {a : Option Addr} {c : Nat} {l : List Bs} (h : SS w (.slice a l.length c) l) (i : Nat) (hi : i < l.length) :
  ∃ g off, a = some ⟨g, off, none⟩ ∧ g < w.heap.size ∧ w.cell? ⟨g, off + i, none⟩ = some (.string ⟨List.toArray (l.getD i [])⟩) := by
 obtain ⟨a', cap, h1, _, _, h5⟩ := h
 injection h1 with h1 _ _
 obtain ⟨g, off, e, hg, hc⟩ := h5 (by intro e; rw [e] at hi; simp at hi)
 exact ⟨g, off, h1.trans e, hg, hc i hi⟩
theorem SS.at {w : World} {a : Option Addr} {c : Nat} {l : List Bs} (h : SS w (.slice a l.length c) l) (i : Nat) (hi : i < l.length) :
  ∃ g off, a = some ⟨g, off, none⟩ ∧ w.cell? ⟨g, off + i, none⟩ = some (.string ⟨List.toArray (l.getD i [])⟩) := by
 obtain ⟨g, off, e, _, hc⟩ := h.at' i hi
 exact ⟨g, off, e, hc⟩
theorem SRow.mod {w w' : World} {b p : Nat} {v : Value} {l : List Bs} (h : SRow w b v l) (hm : Mod [p] w w') (hp : p < b) : SRow w' b v l := by
 refine h.kept (fun k hk => hm.block k ?_ ?_)
 ·rcases h.cells with ⟨rfl, _⟩ | ⟨g, cap, rfl, _, hg, _⟩
  ·cases hk
  ·cases hk; exact hg
 ·have := h.own k hk
  simp; omega
theorem SRow.low {w : World} {b c : Nat} {v : Value} {l : List Bs} (h : SRow w b v l) (hc : c ≤ b) : SRow w c v l := by
 refine ⟨h.1, h.2.imp id ?_⟩
 rintro ⟨g, cap, cur, hv, h1, h2⟩
 exact ⟨g, cap, cur, hv, Nat.le_trans hc h1, h2⟩
theorem sametexts_any (u v : Value) (l m : List Bs) (w : World) (hu : SS w u l) (hv : SS w v m) :
  Calls Tryz.prog 28 #[u, v] w fun e w' => e = .returned (.bool (sameL l m)) ∧ ∃ n, w' = w.drewN n := by
 obtain ⟨a, c, rfl⟩ := hu.form
 obtain ⟨b, d, rfl⟩ := hv.form
 have hls := hu.small
 generalize hr : sameL l m = r
 have HR := Lib.hid hr
 clear hr
 by_cases hl : l.length = m.length
 ·have hl1 : ((l.length : Int) == (m.length : Int)) = true := by simp; omega
  have HL := Lib.hid hl
  clear hl
  go_enter Tryz.func28, Tryz.ntmps28
  go_wp2_with fail
  go_loopw [5, 6] (fun s5 s6 wr => ∃ (i : Nat) (q : Bool), i ≤ l.length ∧ s6 = .int .i64 i ∧ s5 = .bool q ∧ Hid ((q = true → l.take i = m.take i) ∧ (q = false → l ≠ m)) ∧ ∃ n, wr = w.drewN n) (fun _ s6 _ => l.length - (intOf s6).toNat)
  case atStart => exact ⟨0, true, by omega, rfl, rfl, Lib.hid ⟨fun _ => rfl, fun h => by cases h⟩, 0, rfl⟩
  case round =>
   obtain ⟨i, q, hi, rfl, rfl, HQ, nq, rfl⟩ := hrel
   cases q
   ·have HZ : Hid (r = false) := Lib.hid (by rw [← HR.out]; simp [sameL, HQ.out.2 rfl])
    clear HQ
    go_wp2_with fail
    go_ret
    exact ⟨by rw [HZ.out]; rfl, nq, rfl⟩
   ·by_cases hlt : i < l.length
    ·have hlt' : (i : Int) < (l.length : Int) := by omega
     have hlm : i < m.length := by rw [← HL.out]; exact hlt
     have hlm' : (i : Int) < (m.length : Int) := by omega
     obtain ⟨g, off, rfl, c1⟩ := hu.at i hlt
     obtain ⟨g2, off2, rfl, c2⟩ := hv.at i hlm
     have HS : Hid (l.take (i + 1) = m.take (i + 1) ↔ l.getD i [] = m.getD i []) := Lib.hid (by
      rw [List.take_succ_eq_append_getElem hlt, List.take_succ_eq_append_getElem hlm, HQ.out.1 rfl, List.append_cancel_left_eq]
      simp [List.getD, List.getElem?_eq_getElem hlt, List.getElem?_eq_getElem hlm])
     have HD : Hid (l.getD i [] ≠ m.getD i [] → l ≠ m) := Lib.hid (fun h e => h (by rw [e]))
     generalize l.getD i [] = x at *
     generalize m.getD i [] = y at *
     have HU := Lib.hid hu
     have HV := Lib.hid hv
     clear hu hv
     go_wp2_with fail
     go_quiet (fail)
     go_wp2_with fail
     exact ⟨⟨i + 1, x == y, by omega, by go_num, rfl, Lib.hid ⟨fun h => HS.out.2 (by simpa using h), fun h => HD.out (by simpa using h)⟩, _, rfl⟩, by simp [intOf]; omega⟩
    ·have hie : i = l.length := by omega
     have hd : decide ((i : Int) < (l.length : Int)) = false := by simp; omega
     have HZ : Hid (r = true) := Lib.hid (by
      have h := HQ.out.1 rfl
      rw [List.take_of_length_le (by omega), List.take_of_length_le (by rw [← HL.out]; omega)] at h
      rw [← HR.out]
      simp [sameL, h])
     clear HQ
     go_wp2_with fail
     go_ret
     exact ⟨by rw [HZ.out]; rfl, nq, rfl⟩
 ·have hl1 : ((l.length : Int) == (m.length : Int)) = false := by simp; omega
  have HZ : Hid (r = false) := Lib.hid (by rw [← HR.out]; simp [sameL]; intro e; exact hl (by rw [e]))
  clear hl
  go_enter Tryz.func28, Tryz.ntmps28
  go_wp2_with fail
  go_loopw [5, 6] (fun s5 s6 wr => s6 = .int .i64 0 ∧ s5 = .bool false ∧ wr = w) (fun _ s6 _ => 0)
  case atStart => exact ⟨rfl, rfl, rfl⟩
  case round =>
   obtain ⟨rfl, rfl, rfl⟩ := hrel
   go_wp2_with fail
   go_ret
   exact ⟨by rw [HZ.out]; rfl, 0, rfl⟩
theorem sametexts_self (u v : Value) (l : List Bs) (w : World) (hu : SS w u l) (hv : SS w v l) :
  Calls Tryz.prog 28 #[u, v] w fun e w' => e = .returned (.bool true) ∧ ∃ n, w' = w.drewN n := by
 have h := sametexts_any u v l l w hu hv
 rw [show sameL l l = true from by simp [sameL]] at h
 exact h
end Go.Proofs.YthkpmlfaddlieaaGreatDoor
namespace Go.Proofs.YthkpmlfaddlieaaGreatDoor
open Go.RowKit Pl
theorem enc_small (kind : Int) (path val : Bs) (kid : Nat → Bs) (h : chk kind path val kid = true) : (enc kind path val kid).length ≤ 1000 := by
 have hf : fineR kind path val kid = true := by rw [fine_chk]; exact h
 unfold fineR at hf
 split at hf
 ·cases hf
 ·rename_i ha
  have ha' : all32 (kidsF kid) = true := by simpa using ha
  split at hf
  ·cases hf
  ·rename_i hb
   simp only [not_or] at hb
   obtain ⟨_, hp, hv⟩ := hb
   have h1 := text_len val
   have h2 := text_len (pack path true).1
   have h3 := pack_len path true
   have h4 := text_len (pack path false).1
   have h5 := pack_len path false
   have h6 := flat_take kid ha' 16 (by omega)
   have h6' : (kidsF kid).flatten.length ≤ 512 := h6
   unfold enc
   by_cases k3 : kind = 3
   ·rw [if_pos k3]; simp only [List.length_append, List.length_cons, List.length_nil]; omega
   ·rw [if_neg k3]
    by_cases k1 : kind = 1
    ·rw [if_pos k1]; simp only [List.length_append, List.length_cons]; omega
    ·rw [if_neg k1]
     by_cases k2 : kind = 2
     ·subst k2
      have h0 : (kid 0).length = 32 := by simp [chk, all32] at h; omega
      simp only [List.length_append, List.length_cons]; omega
     ·rw [if_neg k1, if_neg k2, if_neg k3] at hf; cases hf
def dgP (kind : Int) (path val : Bs) (kid : Nat → Bs) : Bs := if chk kind path val kid then tagP 1 (enc kind path val kid) else []
theorem rdigest_any (kind : Int) (path val : Bs) (kid : Nat → Bs) (hp : path.length ≤ 1000) (w : World) :
  Calls Tryz.prog 171 #[.agg (nd kind path val kid).toArray] w fun e w' => e = .returned (.string ⟨List.toArray (dgP kind path val kid)⟩) ∧ Below w.heap.size w w' := by
 generalize hd : dgP kind path val kid = d
 have HD := Lib.hid hd
 clear hd
 have hB := Blk.new w (nd kind path val kid).toArray 173
 have hb0 : Below w.heap.size w (w.alloc (.cells (nd kind path val kid).toArray 173)) := Below.allocS (Below.refl _ _) _
 go_enter Tryz.func171, Tryz.ntmps171
 go_wp2_with (refine wpList_node rfl (.tmp 1) rfl rfl hB ?_)
 refine (rfine_any kind path val kid (by omega) _).mono ?_
 rintro e w1 ⟨rfl, hb1⟩
 have hB1 := hB.keep hb1
 have hb2 := hb0.trans (hb1.mono (by simp))
 clear hB hb0 hb1
 cases hf : fineR kind path val kid
 ·have HZ : Hid (d = []) := Lib.hid (by rw [← HD.out]; rw [fine_chk] at hf; simp [dgP, hf])
  go_wp2_with fail
  go_ret
  exact ⟨by rw [HZ.out]; rfl, hb2⟩
 ·have hw := writ_any kind path val kid hf
  have hl := enc_small kind path val kid (by rw [← fine_chk]; exact hf)
  have HZ : Hid (d = tagP 1 (enc kind path val kid)) := Lib.hid (by rw [← HD.out]; rw [fine_chk] at hf; simp [dgP, hf])
  have HW := Lib.hid hw
  clear hw
  generalize enc kind path val kid = en at *
  go_wp2_with (refine wpList_node rfl (.tmp 1) rfl rfl hB1 ?_)
  refine (HW.out _).mono ?_
  rintro e w2 ⟨rfl, hb3⟩
  go_wp2_with fail
  refine (tagged_any 1 (by omega) en (by omega) _).mono ?_
  rintro e w3 ⟨rfl, hb4⟩
  go_wp2_with fail
  go_ret
  exact ⟨by rw [HZ.out]; rfl, (hb2.trans (hb3.mono hb2.size)).trans (hb4.mono (by have := hb2.size; have := hb3.size; omega))⟩
end Go.Proofs.YthkpmlfaddlieaaGreatDoor
namespace Go.Proofs.YthkpmlfaddlieaaGreatDoor
namespace Pl
structure Spt where
 place : Bs
 kind : Int
 path : Bs
 val : Bs
 kid : Nat → Bs
def Spt.sum (x : Spt) : Bs := dgP x.kind x.path x.val x.kid
def headS : List Spt → Bs
 | [] => []
 | x :: _ => x.sum
abbrev i0 : It := ([], [])
def lessI (c : Nat) (l : List It) : List It := l.map fun x => (x.1.drop c, x.2)
def startsB (i : Nat) (x : It) : Bool := match x.1 with
 | [] => false
 | b :: _ => b.toNat == i
def grB (f : Nat → List Spt) (p v : Bs) : List Spt := ⟨p, 3, [], v, fun i => headS (f i)⟩ :: (List.range 16).flatMap f
def firstK (l : List It) : Bs := (l.getD 0 i0).1
def lastK' (l : List It) : Bs := (l.getD (l.length - 1) i0).1
def comI (l : List It) : Nat := common (firstK l) (lastK' l)
def restI (l : List It) : List It := if firstK l = [] then l.drop 1 else l
def val0 (l : List It) : Bs := (l.getD 0 i0).2
def valI (l : List It) : Bs := if firstK l = [] then val0 l else []
def gr : Nat → List It → Bs → List Spt
 | 0, _, _ => []
 | n + 1, l, p =>
  if l.length = 0 then []
  else if l.length = 1 then [⟨p, 1, firstK l, val0 l, noK⟩]
  else if 0 < comI l then
   ⟨p, 2, (firstK l).take (comI l), [], upd noK 0 (headS (gr n (lessI (comI l) l) (p ++ (firstK l).take (comI l))))⟩ :: gr n (lessI (comI l) l) (p ++ (firstK l).take (comI l))
  else grB (fun i => gr n (lessI 1 ((restI l).filter (startsB i))) (p ++ [UInt8.ofNat i])) p (valI l)
theorem bs_nil_lt (b : Bs) : ¬ b < ([] : Bs) := by cases b <;> simp
theorem between (c : Nat) : ∀ (a b d : Bs), ¬ b < a → ¬ d < b → a.take c = d.take c → c ≤ a.length → c ≤ d.length → b.take c = a.take c ∧ c ≤ b.length := by
 induction c with
 | zero => intro a b d _ _ _ _ _; simp
 | succ c ih =>
  intro a b d h1 h2 h3 h4 h5
  rcases a with _ | ⟨x, a⟩
  ·simp at h4
  rcases d with _ | ⟨z, d⟩
  ·simp at h5
  rcases b with _ | ⟨y, b⟩
  ·exact absurd (List.nil_lt_cons _ _) h1
  rw [List.take_succ_cons, List.take_succ_cons] at h3
  injection h3 with e1 e2
  subst e1
  rw [List.cons_lt_cons_iff] at h1 h2
  have hxy : ¬ y < x := fun h => h1 (.inl h)
  have hyx : ¬ x < y := fun h => h2 (.inl h)
  have e : y = x := by
   rw [UInt8.lt_iff_toNat_lt] at hxy hyx
   exact UInt8.toNat_inj.1 (by omega)
  subst e
  obtain ⟨k1, k2⟩ := ih a b d (fun h => h1 (.inr ⟨rfl, h⟩)) (fun h => h2 (.inr ⟨rfl, h⟩)) e2 (by simpa using h4) (by simpa using h5)
  exact ⟨by rw [List.take_succ_cons, List.take_succ_cons, k1], by simpa using k2⟩
theorem getD_it (l : List It) (i : Nat) (hi : i < l.length) : l.getD i i0 = l[i] := by
 rw [List.getD_eq_getElem?_getD, List.getElem?_eq_getElem hi]; rfl
theorem bs_irrefl (a : Bs) : ¬ a < a := by
 induction a with
 | nil => exact bs_nil_lt _
 | cons x r ih => rw [List.cons_lt_cons_iff]; simp [ih]
theorem bs_asymm : ∀ (a b : Bs), a < b → ¬ b < a
 | _, [], h => absurd h (bs_nil_lt _)
 | [], b :: r, _ => bs_nil_lt _
 | a :: r, b :: s, h => by
  rw [List.cons_lt_cons_iff] at h ⊢
  rw [UInt8.lt_iff_toNat_lt] at *
  rintro (h2 | ⟨h2, h3⟩)
  ·rcases h with h | ⟨h, _⟩
   ·omega
   ·subst h; omega
  ·rcases h with h | ⟨_, h⟩
   ·subst h2; omega
   ·exact bs_asymm r s h h3
theorem rise_at {l : List It} (h : Rise l) (i j : Nat) (hi : i < j) (hj : j < l.length) : (l.getD i i0).1 < (l.getD j i0).1 := by
 rw [getD_it l i (by omega), getD_it l j hj]
 exact List.pairwise_iff_getElem.1 h i j (by omega) hj hi
theorem com_all {l : List It} (h : Rise l) (i : Nat) (hi : i < l.length) : ((l.getD i i0).1).take (comI l) = (firstK l).take (comI l) ∧ comI l ≤ ((l.getD i i0).1).length := by
 have h1 : ¬ (l.getD i i0).1 < firstK l := by
  rcases Nat.eq_zero_or_pos i with e | e
  ·subst e; exact bs_irrefl _
  ·exact bs_asymm _ _ (rise_at h 0 i e hi)
 have h2 : ¬ lastK' l < (l.getD i i0).1 := by
  rcases Nat.lt_or_ge i (l.length - 1) with e | e
  ·exact bs_asymm _ _ (rise_at h i (l.length - 1) e (by omega))
  ·have : i = l.length - 1 := by omega
   subst this; exact bs_irrefl _
 exact between (comI l) _ _ _ h1 h2 (common_take _ _) (common_le _ _).1 (common_le _ _).2
theorem less_len (c : Nat) (l : List It) : (lessI c l).length = l.length := by simp [lessI]
theorem lt_cut (p a b : Bs) : p ++ a < p ++ b ↔ a < b := by
 induction p with
 | nil => exact Iff.rfl
 | cons x r ih =>
  rw [List.cons_append, List.cons_append, List.cons_lt_cons_iff, ih]
  have : ¬ x < x := by rw [UInt8.lt_iff_toNat_lt]; omega
  simp [this]
theorem less_rise {l : List It} (h : Rise l) (c : Nat) (p : Bs) (hp : ∀ x ∈ l, x.1.take c = p) : Rise (lessI c l) := by
 unfold Rise lessI
 rw [List.pairwise_map]
 refine (List.Pairwise.and_mem.1 h).imp fun {x y} hxy => ?_
 obtain ⟨hx, hy, hlt⟩ := hxy
 rw [← List.take_append_drop c x.1, ← List.take_append_drop c y.1, hp x hx, hp y hy, lt_cut] at hlt
 exact hlt
def GoodG (n : Nat) (l : List It) : Prop := Rise l ∧ ∀ x ∈ l, fit x.1 = true ∧ x.1.length < n ∧ 1 ≤ x.2.length ∧ x.2.length ≤ 32
theorem mem_it {l : List It} {x : It} (h : x ∈ l) : ∃ i, i < l.length ∧ l.getD i i0 = x := by
 obtain ⟨i, hi, e⟩ := List.getElem_of_mem h
 exact ⟨i, hi, by rw [getD_it l i hi]; exact e⟩
theorem GoodG.less {n : Nat} {l : List It} (h : GoodG (n + 1) l) (hc : 0 < comI l) : GoodG n (lessI (comI l) l) := by
 refine ⟨less_rise h.1 _ ((firstK l).take (comI l)) fun x hx => ?_, fun x hx => ?_⟩
 ·obtain ⟨i, hi, rfl⟩ := mem_it hx
  exact (com_all h.1 i hi).1
 ·simp only [lessI, List.mem_map] at hx
  obtain ⟨y, hy, rfl⟩ := hx
  obtain ⟨i, hi, e⟩ := mem_it hy
  have hl := (com_all h.1 i hi).2
  rw [e] at hl
  obtain ⟨k1, k2, k3, k4⟩ := h.2 y hy
  exact ⟨(fit_split y.1 _ k1).2, by simp only [List.length_drop]; omega, k3, k4⟩
theorem restI_sub {l : List It} {x : It} (h : x ∈ restI l) : x ∈ l := by
 unfold restI at h
 split at h
 ·exact List.mem_of_mem_drop h
 ·exact h
theorem restI_rise {l : List It} (h : Rise l) : Rise (restI l) := by
 unfold restI
 split
 ·exact List.Pairwise.drop h
 ·exact h
theorem restI_key {l : List It} (h : Rise l) {x : It} (hx : x ∈ restI l) : x.1 ≠ [] := by
 intro e
 unfold restI at hx
 split at hx
 ·obtain ⟨i, hi, rfl⟩ := mem_it hx
  rw [List.length_drop] at hi
  have := rise_at h 0 (1 + i) (by omega) (by omega)
  rw [show (l.drop 1).getD i i0 = l.getD (1 + i) i0 from by simp [List.getD_eq_getElem?_getD, List.getElem?_drop, Nat.add_comm]] at e
  rw [e] at this
  exact bs_nil_lt _ this
 ·rename_i hf
  obtain ⟨i, hi, rfl⟩ := mem_it hx
  rcases Nat.eq_zero_or_pos i with e0 | e0
  ·subst e0; exact hf e
  ·have := rise_at h 0 i e0 hi
   rw [e] at this
   exact bs_nil_lt _ this
theorem starts_take {i : Nat} {x : It} (h : startsB i x = true) : x.1.take 1 = [UInt8.ofNat i] ∧ 1 ≤ x.1.length := by
 unfold startsB at h
 rcases hx : x.1 with _ | ⟨b, r⟩
 ·rw [hx] at h; cases h
 ·rw [hx] at h
  have : b.toNat = i := by simpa using h
  subst this
  simp
theorem GoodG.part {n : Nat} {l : List It} (h : GoodG (n + 1) l) (i : Nat) : GoodG n (lessI 1 ((restI l).filter (startsB i))) := by
 refine ⟨less_rise (List.Pairwise.filter _ (restI_rise h.1)) 1 [UInt8.ofNat i] fun x hx => (starts_take (List.mem_filter.1 hx).2).1, fun x hx => ?_⟩
 simp only [lessI, List.mem_map] at hx
 obtain ⟨y, hy, rfl⟩ := hx
 rw [List.mem_filter] at hy
 have hl := (starts_take hy.2).2
 obtain ⟨k1, k2, k3, k4⟩ := h.2 y (restI_sub hy.1)
 exact ⟨(fit_split y.1 _ k1).2, by simp only [List.length_drop]; omega, k3, k4⟩
theorem gr_nil (n : Nat) (p : Bs) : gr n [] p = [] := by cases n <;> simp [gr]
theorem gr_ne {n : Nat} {l : List It} {p : Bs} (h : GoodG n l) (hl : l ≠ []) : gr n l p ≠ [] := by
 rcases n with _ | n
 ·rcases l with _ | ⟨x, r⟩
  ·exact absurd rfl hl
  ·have := (h.2 x (by simp)).2.1; omega
 ·unfold gr
  rw [if_neg (by simpa using hl)]
  split
  ·simp
  ·split <;> simp [grB]
theorem kids_ge1 (kid : Nat → Bs) (i : Nat) (hi : kid i ≠ []) : ∀ n, i < n → 1 ≤ (kidsTo kid n).length
 | 0, h => absurd h (Nat.not_lt_zero _)
 | n + 1, h => by
  rw [kidsTo_succ, List.length_append]
  rcases Nat.lt_or_ge i n with h1 | h1
  ·have := kids_ge1 kid i hi n h1; omega
  ·have : i = n := by omega
   subst this
   rw [if_neg hi]; simp
theorem kids_ge2 (kid : Nat → Bs) (i j : Nat) (hij : i < j) (hi : kid i ≠ []) (hj : kid j ≠ []) : ∀ n, j < n → 2 ≤ (kidsTo kid n).length
 | 0, h => absurd h (Nat.not_lt_zero _)
 | n + 1, h => by
  rw [kidsTo_succ, List.length_append]
  rcases Nat.lt_or_ge j n with h1 | h1
  ·have := kids_ge2 kid i j hij hi hj n h1; omega
  ·have : j = n := by omega
   subst this
   have := kids_ge1 kid i hi j hij
   rw [if_neg hj]; simp; omega
theorem kids_all {kid : Nat → Bs} (h : ∀ i, i < 16 → kid i ≠ [] → (kid i).length = 32) : all32 (kidsF kid) = true := by
 unfold all32 kidsF kidsTo
 rw [List.all_eq_true]
 intro s hs
 rw [List.mem_filter, List.mem_map] at hs
 obtain ⟨⟨i, hi, rfl⟩, hn⟩ := hs
 rw [decide_eq_true_eq]
 exact h i (List.mem_range.1 hi) (by simpa using hn)
theorem dgP_32 {k : Int} {p v : Bs} {kid : Nat → Bs} (h : fineR k p v kid = true) : (dgP k p v kid).length = 32 := by
 rw [fine_chk] at h
 unfold dgP
 rw [if_pos h]
 exact tagP_len _ _
theorem first_ne {l : List It} (h : Rise l) (hc : comI l = 0) (h2 : 2 ≤ l.length) (hf : firstK l ≠ []) :
  ∃ a b r s, firstK l = a :: r ∧ lastK' l = b :: s ∧ a < b := by
 have hlt := rise_at h 0 (l.length - 1) (by omega) (by omega)
 have e1 : (l.getD 0 i0).1 = firstK l := rfl
 have e2 : (l.getD (l.length - 1) i0).1 = lastK' l := rfl
 rw [e1, e2] at hlt
 unfold comI at hc
 rcases ha : firstK l with _ | ⟨a, r⟩
 ·exact absurd ha hf
 rcases hb : lastK' l with _ | ⟨b, s⟩
 ·rw [hb] at hlt; exact absurd hlt (bs_nil_lt _)
 rw [ha, hb] at hlt hc
 rw [List.cons_lt_cons_iff] at hlt
 rcases hlt with hlt | ⟨e, _⟩
 ·exact ⟨a, b, r, s, rfl, rfl, hlt⟩
 ·subst e; simp [common] at hc
theorem filt_ne {l : List It} {x : It} {a : UInt8} {r : Bs} (hx : x ∈ l) (hk : x.1 = a :: r) : lessI 1 (l.filter (startsB a.toNat)) ≠ [] := by
 intro e
 have hm : x ∈ l.filter (startsB a.toNat) := by
  rw [List.mem_filter]
  exact ⟨hx, by unfold startsB; rw [hk]; simp⟩
 unfold lessI at e
 rw [List.map_eq_nil_iff] at e
 rw [e] at hm; cases hm
theorem it_mem {l : List It} {i : Nat} (hi : i < l.length) : l.getD i i0 ∈ l := by rw [getD_it l i hi]; exact List.getElem_mem _
theorem u8_fit {a : UInt8} {r : Bs} (h : fit (a :: r) = true) : a.toNat < 16 := (fit_cons a r).1 h |>.1
theorem gr_fine : ∀ (n : Nat) (l : List It) (p : Bs), n ≤ 17 → GoodG n l → (∀ s ∈ gr n l p, fineR s.kind s.path s.val s.kid = true) ∧ (l ≠ [] → (headS (gr n l p)).length = 32)
 | 0, l, p, _, h => by
  rcases l with _ | ⟨x, r⟩
  ·exact ⟨fun s hs => by simp [gr] at hs, fun h => absurd rfl h⟩
  ·have := (h.2 x (by simp)).2.1; omega
 | n + 1, l, p, hn, h => by
  have ih := fun l p => gr_fine n l p (by omega)
  unfold gr
  by_cases h0 : l.length = 0
  ·rw [if_pos h0]
   exact ⟨fun s hs => by simp at hs, fun hl => absurd (List.length_eq_zero_iff.1 h0) hl⟩
  rw [if_neg h0]
  have hm0 := it_mem (l := l) (i := 0) (by omega)
  obtain ⟨k1, k2, k3, k4⟩ := h.2 _ hm0
  have k1' : fit (firstK l) = true := k1
  replace k3 : 1 ≤ (val0 l).length := k3
  replace k4 : (val0 l).length ≤ 32 := k4
  have k2' : (firstK l).length ≤ 16 := by have : (firstK l).length = (l.getD 0 i0).1.length := rfl; omega
  have key : ∀ (k : Int) (q v : Bs) (kid : Nat → Bs) (r : List Spt), fineR k q v kid = true → (∀ s ∈ r, fineR s.kind s.path s.val s.kid = true) →
    (∀ s ∈ (⟨p, k, q, v, kid⟩ : Spt) :: r, fineR s.kind s.path s.val s.kid = true) ∧ (l ≠ [] → (headS ((⟨p, k, q, v, kid⟩ : Spt) :: r)).length = 32) := by
   intro k q v kid r hf hr
   refine ⟨fun s hs => ?_, fun _ => dgP_32 hf⟩
   rcases List.mem_cons.1 hs with rfl | hs
   ·exact hf
   ·exact hr s hs
  have hkN : kidsF noK = [] := by simp [kidsF, kidsTo, noK]
  by_cases h1 : l.length = 1
  ·rw [if_pos h1]
   refine key _ _ _ _ _ ?_ (fun s hs => by simp at hs)
   unfold fineR
   rw [hkN, if_neg (by simp [all32]), if_neg (by rw [k1']; simp; omega)]
   simp
   intro e
   rw [e] at k3; simp at k3
  rw [if_neg h1]
  by_cases hc : 0 < comI l
  ·rw [if_pos hc]
   obtain ⟨i1, i2⟩ := ih _ (p ++ (firstK l).take (comI l)) (h.less hc)
   have hne : lessI (comI l) l ≠ [] := fun e => h0 (by rw [← less_len (comI l) l, e]; rfl)
   have i3 := i2 hne
   refine key _ _ _ _ _ ?_ i1
   generalize headS (gr n (lessI (comI l) l) (p ++ (firstK l).take (comI l))) = hs at *
   have hcl := (com_all h.1 0 (by omega)).2
   have hk1 : kidsF (upd noK 0 hs) = [hs] := by
    have hz : hs ≠ [] := by intro e; rw [e] at i3; cases i3
    have : ∀ n, kidsTo (upd noK 0 hs) (n + 1) = [hs] := by
     intro n
     induction n with
     | zero => rw [kidsTo_succ]; simp [upd, hz, kidsTo]
     | succ n ih => rw [kidsTo_succ, ih]; simp [upd, noK]
    exact this 15
   unfold fineR
   rw [hk1, if_neg (by simp [all32, i3]), if_neg (by rw [show firstK l = (l.getD 0 i0).1 from rfl, (fit_split _ _ k1).1]; simp; omega)]
   have hz : hs ≠ [] := by intro e; rw [e] at i3; cases i3
   have hl : (firstK l).length = (l.getD 0 i0).1.length := rfl
   simp [upd, hz, List.length_take]
   omega
  ·rw [if_neg hc]
   have hc0 : comI l = 0 := by omega
   have hf : ∀ i, (headS (gr n (lessI 1 ((restI l).filter (startsB i))) (p ++ [UInt8.ofNat i]))) ≠ [] → (headS (gr n (lessI 1 ((restI l).filter (startsB i))) (p ++ [UInt8.ofNat i]))).length = 32 := by
    intro i hi
    refine (ih _ _ (h.part i)).2 fun e => hi ?_
    rw [e, gr_nil]; rfl
   have hg : ∀ x ∈ restI l, ∀ a r, x.1 = a :: r → a.toNat < 16 ∧ headS (gr n (lessI 1 ((restI l).filter (startsB a.toNat))) (p ++ [UInt8.ofNat a.toNat])) ≠ [] := by
    intro x hx a r e
    refine ⟨u8_fit (r := r) (by rw [← e]; exact (h.2 x (restI_sub hx)).1), fun e2 => ?_⟩
    have := (ih _ (p ++ [UInt8.ofNat a.toNat]) (h.part a.toNat)).2 (filt_ne hx e)
    rw [e2] at this; cases this
   refine key _ _ _ _ _ ?_ ?_
   ·generalize hkd : (fun i => headS (gr n (lessI 1 ((restI l).filter (startsB i))) (p ++ [UInt8.ofNat i]))) = kid at *
    have hf' : ∀ i, kid i ≠ [] → (kid i).length = 32 := fun i => by rw [← hkd]; exact hf i
    have hg' : ∀ x ∈ restI l, ∀ a r, x.1 = a :: r → a.toNat < 16 ∧ kid a.toNat ≠ [] := fun x hx a r e => by rw [← hkd]; exact hg x hx a r e
    have hv : (valI l).length ≤ 32 := by unfold valI; split <;> (try simp) <;> omega
    unfold fineR
    rw [if_neg (by rw [kids_all (fun i _ => hf' i)]; decide), if_neg (by simp [fit]; omega)]
    have hmL := it_mem (l := l) (i := l.length - 1) (by omega)
    have hmR : l.getD (l.length - 1) i0 ∈ restI l := by
     unfold restI
     split
     ·have := it_mem (l := l.drop 1) (i := l.length - 2) (by rw [List.length_drop]; omega)
      rw [show (l.drop 1).getD (l.length - 2) i0 = l.getD (l.length - 1) i0 from by
       simp only [List.getD_eq_getElem?_getD, List.getElem?_drop]; rw [show 1 + (l.length - 2) = l.length - 1 from by omega]] at this
      exact this
     ·exact hmL
    by_cases hfk : firstK l = []
    ·have hvn : valI l ≠ [] := by
      unfold valI
      rw [if_pos hfk]
      intro e; rw [e] at k3; simp at k3
     rcases hlk : (l.getD (l.length - 1) i0).1 with _ | ⟨b, s⟩
     ·exact absurd hlk (restI_key h.1 hmR)
     obtain ⟨q1, q2⟩ := hg' _ hmR b s hlk
     have := kids_ge1 kid _ q2 16 q1
     unfold kidsF
     simp [hvn]
     omega
    ·obtain ⟨a, b, r, s, e1, e2, hlt⟩ := first_ne h.1 hc0 (by omega) hfk
     have hm1 : l.getD 0 i0 ∈ restI l := by unfold restI; rw [if_neg hfk]; exact hm0
     obtain ⟨q1, q2⟩ := hg' _ hm1 a r e1
     obtain ⟨q3, q4⟩ := hg' _ hmR b s e2
     have := kids_ge2 kid a.toNat b.toNat (UInt8.lt_iff_toNat_lt.1 hlt) q2 q4 16 q3
     unfold kidsF
     simp
     omega
   ·intro s hs
    rw [List.mem_flatMap] at hs
    obtain ⟨i, _, hs⟩ := hs
    exact (ih _ _ (h.part i)).1 s hs
def preB (k : Nat) (x : It) : Bool := match x.1 with
 | [] => false
 | b :: _ => decide (b.toNat < k)
theorem pre_succ (k : Nat) : ∀ l : List It, (l.filter (preB (k + 1))).length = (l.filter (preB k)).length + (l.filter (startsB k)).length
 | [] => rfl
 | x :: r => by
  have ih := pre_succ k r
  have h : (preB (k + 1) x = true ∧ preB k x = true ∧ startsB k x = false) ∨ (preB (k + 1) x = true ∧ preB k x = false ∧ startsB k x = true) ∨ (preB (k + 1) x = false ∧ preB k x = false ∧ startsB k x = false) := by
   unfold preB startsB
   rcases x.1 with _ | ⟨b, s⟩
   ·simp
   ·simp; omega
  rcases h with ⟨h1, h2, h3⟩ | ⟨h1, h2, h3⟩ | ⟨h1, h2, h3⟩ <;> simp only [List.filter_cons, h1, h2, h3, if_true, if_false, Bool.false_eq_true, List.length_cons] <;> omega
theorem flat_leG (f : Nat → List Spt) (m : Nat) (l : List It) (h : ∀ i, (f i).length ≤ m * (l.filter (startsB i)).length) : ∀ k, ((List.range k).flatMap f).length ≤ m * (l.filter (preB k)).length
 | 0 => by simp
 | k + 1 => by
  have ih := flat_leG f m l h k
  have := h k
  rw [List.range_succ, List.flatMap_append, List.length_append, pre_succ, Nat.mul_add]
  simp only [List.flatMap_cons, List.flatMap_nil, List.append_nil]
  omega
theorem gr_count : ∀ (n : Nat) (l : List It) (p : Bs), (gr n l p).length ≤ n * l.length
 | 0, l, p => by simp [gr]
 | n + 1, l, p => by
  have ih := fun l p => gr_count n l p
  unfold gr
  split
  ·simp
  ·split
   ·rename_i h; rw [h]; simp
   ·rename_i h0 h1
    split
    ·have := ih (lessI (comI l) l) (p ++ (firstK l).take (comI l))
     rw [less_len] at this
     rw [List.length_cons, Nat.add_mul]; omega
    ·have := flat_leG (fun i => gr n (lessI 1 ((restI l).filter (startsB i))) (p ++ [UInt8.ofNat i])) n (restI l) (fun i => by have := ih (lessI 1 ((restI l).filter (startsB i))) (p ++ [UInt8.ofNat i]); rwa [less_len] at this) 16
     have h2 : ((restI l).filter (preB 16)).length ≤ l.length := by
      refine Nat.le_trans (List.length_filter_le _ _) ?_
      unfold restI
      split
      ·rw [List.length_drop]; omega
      ·exact Nat.le_refl _
     have h3 := Nat.mul_le_mul_left n h2
     unfold grB
     rw [List.length_cons, Nat.add_mul]; omega
end Pl
end Go.Proofs.YthkpmlfaddlieaaGreatDoor
namespace Go.Proofs.YthkpmlfaddlieaaGreatDoor
namespace Pl
def linksTo (h : Nat) : Nat → List Int
 | 0 => []
 | k + 1 => if h % 2 ^ (k + 1) = 0 then linksTo h k ++ [(h : Int) - (2 ^ (k + 1) : Nat)] else linksTo h k
def linksF (h : Int) : List Int := if h < 1 ∨ 1048576 < h then [] else linksTo h.toNat 20
theorem linksTo_yes {h k : Nat} (hd : h % 2 ^ (k + 1) = 0) : linksTo h (k + 1) = linksTo h k ++ [(h : Int) - (2 ^ (k + 1) : Nat)] := if_pos hd
theorem linksTo_no {h k : Nat} (hd : h % 2 ^ (k + 1) ≠ 0) : linksTo h (k + 1) = linksTo h k := if_neg hd
theorem links_stop {h k : Nat} (hd : h % 2 ^ (k + 1) ≠ 0) : ∀ m, linksTo h (k + m) = linksTo h k
 | 0 => rfl
 | m + 1 => by
  rw [← links_stop hd m]
  show linksTo h (k + m + 1) = _
  refine linksTo_no (fun h0 => hd ?_)
  have h1 : 2 ^ (k + 1) ∣ 2 ^ (k + m + 1) := Nat.pow_dvd_pow 2 (by omega)
  exact Nat.mod_eq_zero_of_dvd (Nat.dvd_trans h1 (Nat.dvd_of_mod_eq_zero h0))
theorem links_len (h : Nat) : ∀ k, (linksTo h k).length ≤ k
 | 0 => Nat.le_refl _
 | k + 1 => by
  have := links_len h k
  unfold linksTo
  split
  ·rw [List.length_append]; simp; omega
  ·omega
theorem linksF_len (h : Int) : (linksF h).length ≤ 20 := by
 unfold linksF
 split
 ·simp
 ·exact links_len _ 20
theorem linksF_in {h : Int} (h1 : 1 ≤ h) (h2 : h ≤ 1048576) : linksF h = linksTo h.toNat 20 := if_neg (by omega)
theorem linksF_out {h : Int} (h1 : h < 1 ∨ 1048576 < h) : linksF h = [] := if_pos h1
def flagB (b : Bool) : Bs := if b then [1] else [0]
structure Hd where
 height : Int
 epoch : Int
 view : Int
 last : Bool
 parent : Bs
 state : Bs
 receipts : Bs
 txs : Bs
 members : Bs
 next : Bs
 skips : List Bs
def hdZ : Hd := ⟨0, 0, 0, false, [], [], [], [], [], [], []⟩
def may32 (s : Bs) : Bool := decide (s = []) || decide (s.length = 32)
def firstH (h : Hd) : Bool :=
 if 0 < h.height then decide (h.parent.length = 32) else decide (h.parent = []) && decide (h.epoch = 0) && decide (h.view = 0) && h.last
def inH (n most : Int) : Bool := decide (0 ≤ n) && decide (n ≤ most)
def numsH (h : Hd) : Bool := inH h.height 1048576 && inH h.epoch 1048576 && inH h.view 1048576
def endH (h : Hd) : Bool := decide (h.txs.length = 32) && decide (h.members.length = 32) && decide (h.next.length = 32) && may32 h.state && may32 h.receipts
def sumsH (h : Hd) : Bool :=
 if 0 < h.height then decide (h.skips.length = (linksF h.height).length) && h.skips.all (fun s => decide (s.length = 32)) && endH h
 else decide (h.skips = []) && endH h
def fineH (h : Hd) : Bool := numsH h && firstH h && sumsH h && (h.last || decide (h.next = h.members))
def fineHR (h : Hd) : Bool :=
 numsH h && endH h && decide (h.skips.length = (linksF h.height).length) && h.skips.all (fun s => decide (s.length = 32)) &&
 (if h.height = 0 then decide (h.parent = []) && decide (h.epoch = 0) && decide (h.view = 0) && h.last else decide (h.parent.length = 32) && (h.last || decide (h.next = h.members)))
theorem fineHR_eq (h : Hd) : fineHR h = fineH h := by
 unfold fineHR fineH
 by_cases hn : numsH h = true
 ·have h0 : 0 ≤ h.height := by
   unfold numsH inH at hn
   simp only [Bool.and_eq_true, decide_eq_true_eq] at hn
   exact hn.1.1.1
  by_cases hz : h.height = 0
  ·have h1 : ¬ 0 < h.height := by omega
   have h2 : linksF h.height = [] := linksF_out (by omega)
   rw [if_pos hz]
   unfold firstH sumsH
   rw [if_neg h1, if_neg h1, h2]
   cases h.last
   ·simp
   ·cases hs : h.skips <;> simp <;> (cases decide (h.parent = []) <;> cases decide (h.epoch = 0) <;> cases decide (h.view = 0) <;> cases endH h <;> cases numsH h <;> rfl)
  ·have h1 : 0 < h.height := by omega
   rw [if_neg hz]
   unfold firstH sumsH
   rw [if_pos h1, if_pos h1]
   cases numsH h <;> cases endH h <;> cases decide (h.skips.length = (linksF h.height).length) <;> cases h.skips.all (fun s => decide (s.length = 32)) <;> cases decide (h.parent.length = 32) <;> rfl
 ·have hn' : numsH h = false := by simpa using hn
  simp [hn']
def writH (h : Hd) : Bs :=
 num h.height.toNat ++ num h.epoch.toNat ++ num h.view.toNat ++ flagB h.last ++ text h.parent ++ text h.state ++ text h.receipts ++ h.txs ++ h.members ++ h.next ++ h.skips.flatten
end Pl
end Go.Proofs.YthkpmlfaddlieaaGreatDoor
namespace Go.Proofs.YthkpmlfaddlieaaGreatDoor
open Go.RowKit Pl
theorem Below.nm {B : Nat} {a w : World} (_ : Below B a w) : ∃ w' : World, w' = w := ⟨w, rfl⟩
def leS (a b : Bs) : Bool := Op.bytesLess a b || a == b
@[go_sem high] theorem leq_S (t : TypeId) (a b : Bs) : binOp .leq t (.string ⟨a.toArray⟩) (.string ⟨b.toArray⟩) = pure (.bool (leS a b)) := by
 rw [binOp_string_leq]
 unfold leS
 rw [Lib.toList_data, Lib.toList_data]
def MSrc (w : World) (g o : Nat) (l : List (Bs × Int)) : Prop := ∀ i, i < l.length → w.cell? ⟨g, o + i * 2, none⟩ = some (.string ⟨List.toArray ((l.getD i ([], 0)).1)⟩) ∧ w.cell? ⟨g, o + i * 2 + 1, none⟩ = some (.int .i64 ((l.getD i ([], 0)).2))
def MS (w : World) (v : Value) (l : List (Bs × Int)) : Prop :=
 ∃ a cap, v = .slice a l.length cap ∧ l.length ≤ cap ∧ cap ≤ maxLen ∧ (l ≠ [] → ∃ g off, a = some ⟨g, off, none⟩ ∧ g < w.heap.size ∧ MSrc w g off l)
theorem MS.keep {W w : World} {v : Value} {l : List (Bs × Int)} (h : MS W v l) (hb : Below W.heap.size W w) : MS w v l := by
 obtain ⟨a, cap, h1, h2, h3, h4⟩ := h
 refine ⟨a, cap, h1, h2, h3, fun hl => ?_⟩
 obtain ⟨g, off, e, hg, hc⟩ := h4 hl
 exact ⟨g, off, e, Nat.lt_of_lt_of_le hg hb.size, fun i hi => ⟨(hb.cell (p := ⟨g, off + i * 2, none⟩) hg).trans (hc i hi).1, (hb.cell (p := ⟨g, off + i * 2 + 1, none⟩) hg).trans (hc i hi).2⟩⟩
theorem MS.form {w : World} {v : Value} {l : List (Bs × Int)} (h : MS w v l) : ∃ a c, v = .slice a l.length c := by
 obtain ⟨a, cap, h1, _⟩ := h
 exact ⟨a, cap, h1⟩
theorem MS.small {w : World} {v : Value} {l : List (Bs × Int)} (h : MS w v l) : l.length ≤ 9223372036854775807 := by
 obtain ⟨a, cap, h1, h2, h3, _⟩ := h
 unfold maxLen at h3; omega
theorem MS.at {w : World} {a : Option Addr} {c : Nat} {l : List (Bs × Int)} (h : MS w (.slice a l.length c) l) (i : Nat) (hi : i < l.length) :
  ∃ g off, a = some ⟨g, off, none⟩ ∧ g < w.heap.size ∧ w.cell? ⟨g, off + i * 2, none⟩ = some (.string ⟨List.toArray ((l.getD i ([], 0)).1)⟩) ∧ w.cell? ⟨g, off + i * 2 + 1, none⟩ = some (.int .i64 ((l.getD i ([], 0)).2)) := by
 obtain ⟨a', cap, h1, _, _, h5⟩ := h
 injection h1 with h1 _ _
 obtain ⟨g, off, e, hg, hc⟩ := h5 (by intro e; rw [e] at hi; simp at hi)
 exact ⟨g, off, h1.trans e, hg, (hc i hi).1, (hc i hi).2⟩
namespace Pl
def okM : Bs → List (Bs × Int) → Bool
 | _, [] => true
 | z, (n, p) :: r => !(decide ((6 : Int) < (n.length : Int)) || leS n z || decide (p < 1) || decide (1000 < p)) && okM n r
def chkM (l : List (Bs × Int)) : Bool := decide (l.length ≠ 0) && decide (l.length ≤ 7) && okM [] l
def setI (b : Bool) : Int := if b then 0 else 50
def lastN (l : List (Bs × Int)) : Nat → Bs
 | 0 => []
 | i + 1 => (l.getD i ([], 0)).1
theorem drop_getD (l : List (Bs × Int)) (i : Nat) (hi : i < l.length) : l.drop i = l.getD i ([], 0) :: l.drop (i + 1) := by
 rw [List.drop_eq_getElem_cons hi, List.getD_eq_getElem?_getD, List.getElem?_eq_getElem hi]
 rfl
theorem okM_at : ∀ (l : List (Bs × Int)) (z : Bs), okM z l = true → ∀ i, i < l.length → (l.getD i ([], 0)).1.length ≤ 6 ∧ 1 ≤ (l.getD i ([], 0)).2 ∧ (l.getD i ([], 0)).2 ≤ 1000
 | (n, p) :: r, z, h, i, hi => by
  simp only [okM, Bool.and_eq_true, Bool.not_eq_true', Bool.or_eq_false_iff, decide_eq_false_iff_not] at h
  obtain ⟨⟨⟨⟨h1, h2⟩, h3⟩, h4⟩, h5⟩ := h
  match i with
  | 0 => exact ⟨by simp; omega, by simp; omega, by simp; omega⟩
  | j + 1 => exact okM_at r n h5 j (by simpa using hi)
theorem take_getD (l : List (Bs × Int)) (i : Nat) (hi : i < l.length) : l.take (i + 1) = l.take i ++ [l.getD i ([], 0)] := by
 rw [List.take_add_one, List.getElem?_eq_getElem hi, List.getD_eq_getElem?_getD, List.getElem?_eq_getElem hi]
 rfl
def okS : Bs → List Bs → Bool
 | _, [] => true
 | z, n :: r => !(leS n z || decide ((6 : Int) < (n.length : Int))) && okS n r
theorem dropS (l : List Bs) (i : Nat) (hi : i < l.length) : l.drop i = l.getD i [] :: l.drop (i + 1) := by
 rw [List.drop_eq_getElem_cons hi, List.getD_eq_getElem?_getD, List.getElem?_eq_getElem hi]
 rfl
end Pl
theorem mcheck_any (v : Value) (l : List (Bs × Int)) (w : World) (hv : MS w v l) :
  Calls Tryz.prog 36 #[v] w fun e w' => e = .returned (.int .i64 (setI (chkM l))) ∧ Below w.heap.size w w' := by
 generalize hr : setI (chkM l) = r
 have HR := Lib.hid hr
 clear hr
 obtain ⟨a, c, rfl⟩ := hv.form
 have hm := hv.small
 have HV := Lib.hid hv
 by_cases h0 : l.length = 0
 ·rw [h0]
  clear HV hv
  go_enter Tryz.func36, Tryz.ntmps36
  go_wp2_with fail
  all_goals (go_ret; refine ⟨?_, Below.refl _ _⟩; rw [← HR.out]; simp [chkM, h0, setI])
 ·by_cases h7 : 7 < l.length
  ·have hd : decide ((7 : Int) < (l.length : Int)) = true := by simp; omega
   have hd0 : ((l.length : Int) == 0) = false := by rw [beq_eq_false_iff_ne]; omega
   clear HV hv
   go_enter Tryz.func36, Tryz.ntmps36
   go_wp2_with fail
   all_goals (go_ret; refine ⟨?_, Below.refl _ _⟩; rw [← HR.out]; have : ¬ l.length ≤ 7 := (by omega); simp [chkM, this, setI])
  ·have hd : decide ((7 : Int) < (l.length : Int)) = false := by simp; omega
   have hd0 : ((l.length : Int) == 0) = false := by rw [beq_eq_false_iff_ne]; omega
   have HR2 : Hid (setI (okM [] l) = r) := Lib.hid (by rw [← HR.out]; have : l.length ≤ 7 := (by omega); simp [chkM, this, h0])
   clear HR hv h0
   go_enter Tryz.func36, Tryz.ntmps36
   go_wp2_with fail
   go_loopw [3, 16] (fun s3 s16 wr => ∃ i : Nat, i ≤ l.length ∧ s16 = .int .i64 i ∧ s3 = .string ⟨List.toArray (lastN l i)⟩ ∧ Hid (setI (okM (lastN l i) (l.drop i)) = r) ∧ Below w.heap.size w wr) (fun _ s16 _ => l.length - (intOf s16).toNat)
   case atStart => exact ⟨0, by omega, rfl, rfl, HR2, Below.refl _ _⟩
   case round =>
    obtain ⟨i, hi, rfl, rfl, HI, hb⟩ := hrel
    obtain ⟨wq, h⟩ := Below.nm hb
    subst h
    by_cases hlt : i < l.length
    ·obtain ⟨g, off, rfl, hg, c1, c2⟩ := (HV.out.keep hb).at i hlt
     have hi2 := HI.out
     rw [drop_getD l i hlt] at hi2
     have hnx : lastN l (i + 1) = (l.getD i ([], 0)).1 := rfl
     generalize hx : l.getD i ([], 0) = x at *
     obtain ⟨n, p⟩ := x
     simp only at c1 c2 hnx
     unfold okM at hi2
     generalize lastN l i = z at *
     go_wp2_with fail
     all_goals first
      | (refine ⟨⟨i + 1, by omega, by go_num, by rw [hnx], Lib.hid ?_, Below.allocS hb _⟩, by simp [intOf]; omega⟩
         rw [hnx, ← hi2]
         simp_all [setI])
      | (go_ret; refine ⟨?_, Below.allocS hb _⟩; rw [← hi2]; simp_all [setI] <;> (rw [if_neg (by omega)] at hi2; exact hi2))
    ·obtain rfl : i = l.length := by omega
     go_wp2_with fail
     all_goals (go_ret; refine ⟨?_, hb⟩; rw [← HI.out]; simp [okM, setI])
end Go.Proofs.YthkpmlfaddlieaaGreatDoor
namespace Go.Proofs.YthkpmlfaddlieaaGreatDoor
open Go.ChangeShapes Go.WideShapes Go.ChangeAt Go.RowKit Pl
theorem cell_lt {W : World} {g o : Nat} {x : Value} (h : W.cell? ⟨g, o, none⟩ = some x) : g < W.heap.size := by
 rcases Nat.lt_or_ge g W.heap.size with hlt | hge
 ·exact hlt
 ·unfold World.cell? at h
  rw [Array.getElem?_eq_none hge] at h
  simp at h
theorem ms_val {W : World} {v : Value} (h : Sh.Val W (.slice 2 (.pair .str (.pair (.int .i64) .unit))) v) : ∃ l : List (Bs × Int), MS W v l := by
 rcases (show _ ∨ _ from h) with h | ⟨a, len, cap, hv, hlc, hcm, hel⟩
 ·obtain rfl : v = .slice none 0 0 := by simpa using h
  exact ⟨[], none, 0, rfl, Nat.le_refl _, by unfold maxLen; omega, fun h => absurd rfl h⟩
 ·obtain rfl : v = .slice (some a) len cap := by simpa using hv
  rcases Nat.eq_zero_or_pos len with h0 | hpos
  ·subst h0
   exact ⟨[], some a, cap, rfl, hlc, hcm, fun h => absurd rfl h⟩
  ·obtain ⟨hs, hc⟩ := slice_cells (by decide) hpos hel
   have hf : ∀ i, ∃ x : Bs × Int, i < len → W.cell? ⟨a.block, a.off + i * 2, none⟩ = some (.string ⟨List.toArray x.1⟩) ∧ W.cell? ⟨a.block, a.off + i * 2 + 1, none⟩ = some (.int .i64 x.2) := by
    intro i
    by_cases hi : i < len
    ·obtain ⟨cs, ⟨x, y, rfl, ⟨s, rfl, _⟩, z, u, rfl, ⟨n, rfl, _⟩, hu⟩, _, hj⟩ := hc i hi
     have h0 := hj 0 (by decide)
     have h1 := hj 1 (by decide)
     refine ⟨(s.data.toList, n), fun _ => ⟨?_, ?_⟩⟩
     ·rw [← str_list s]
      simpa using h0
     ·simpa using h1
    ·exact ⟨([], 0), fun h => absurd h hi⟩
   obtain ⟨f, hf⟩ := Classical.axiomOfChoice hf
   obtain ⟨b, off, sp⟩ := a
   simp only at hs
   subst hs
   refine ⟨(List.range len).map f, some ⟨b, off, none⟩, cap, by simp, by simpa using hlc, hcm, fun _ => ⟨b, off, rfl, cell_lt (hf 0 hpos).1, fun i hi => ?_⟩⟩
   have hi' : i < len := by simpa using hi
   have hg : ((List.range len).map f).getD i ([], 0) = f i := by simp [List.getD, hi']
   rw [hg]
   exact hf i hi'
theorem ss_val {W : World} {v : Value} (h : Sh.Val W (.slice 1 .str) v) : ∃ l : List Bs, SS W v l ∧ ∀ i, i < l.length → (l.getD i []).length ≤ maxLen := by
 rcases (show _ ∨ _ from h) with h | ⟨a, len, cap, hv, hlc, hcm, hel⟩
 ·obtain rfl : v = .slice none 0 0 := by simpa using h
  exact ⟨[], SS.nil W, fun i hi => by simp at hi⟩
 ·obtain rfl : v = .slice (some a) len cap := by simpa using hv
  rcases Nat.eq_zero_or_pos len with h0 | hpos
  ·subst h0
   exact ⟨[], ⟨some a, cap, rfl, hlc, hcm, fun h => absurd rfl h⟩, fun i hi => by simp at hi⟩
  ·obtain ⟨hs, hc⟩ := slice_cells (by decide) hpos hel
   have hf : ∀ i, ∃ x : Bs, i < len → W.cell? ⟨a.block, a.off + i, none⟩ = some (.string ⟨x.toArray⟩) ∧ x.length ≤ maxLen := by
    intro i
    by_cases hi : i < len
    ·obtain ⟨cs, ⟨s, rfl, hsl⟩, _, hj⟩ := hc i hi
     have h0 := hj 0 (by decide)
     refine ⟨s.data.toList, fun _ => ⟨?_, by rw [Array.length_toList]; exact hsl⟩⟩
     rw [← str_list s]
     simpa using h0
    ·exact ⟨[], fun h => absurd h hi⟩
   obtain ⟨f, hf⟩ := Classical.axiomOfChoice hf
   obtain ⟨b, off, sp⟩ := a
   simp only at hs
   subst hs
   have hg : ∀ i, i < len → ((List.range len).map f).getD i [] = f i := fun i hi => by simp [List.getD, hi]
   refine ⟨(List.range len).map f, ⟨some ⟨b, off, none⟩, cap, by simp, by simpa using hlc, hcm, fun _ => ⟨b, off, rfl, cell_lt (hf 0 hpos).1, fun i hi => ?_⟩⟩, fun i hi => ?_⟩
   ·have hi' : i < len := by simpa using hi
    rw [hg i hi']
    exact (hf i hi').1
   ·have hi' : i < len := by simpa using hi
    rw [hg i hi']
    exact (hf i hi').2
end Go.Proofs.YthkpmlfaddlieaaGreatDoor
namespace Go.Proofs.YthkpmlfaddlieaaGreatDoor
open Go.ChangeShapes Go.WideShapes Go.ChangeAt Go.RowKit Pl
def ZSrcI (w : World) (g o : Nat) (l : List Int) : Prop := ∀ i, i < l.length → w.cell? ⟨g, o + i, none⟩ = some (.int .i64 (l.getD i 0))
def IS (w : World) (v : Value) (l : List Int) : Prop :=
 ∃ a cap, v = .slice a l.length cap ∧ l.length ≤ cap ∧ cap ≤ maxLen ∧ (l ≠ [] → ∃ g off, a = some ⟨g, off, none⟩ ∧ g < w.heap.size ∧ ZSrcI w g off l)
theorem IS.at' {w : World} {a : Option Addr} {c : Nat} {l : List Int} (h : IS w (.slice a l.length c) l) (i : Nat) (hi : i < l.length) :
  ∃ g off, a = some ⟨g, off, none⟩ ∧ g < w.heap.size ∧ w.cell? ⟨g, off + i, none⟩ = some (.int .i64 (l.getD i 0)) := by
 obtain ⟨a', cap, h1, _, _, h5⟩ := h
 injection h1 with h1 _ _
 obtain ⟨g, off, e, hg, hc⟩ := h5 (by intro e; rw [e] at hi; simp at hi)
 exact ⟨g, off, h1.trans e, hg, hc i hi⟩
end Go.Proofs.YthkpmlfaddlieaaGreatDoor
