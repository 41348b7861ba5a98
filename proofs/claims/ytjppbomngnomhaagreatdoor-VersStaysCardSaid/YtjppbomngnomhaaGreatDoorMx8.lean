/- NibC, Get, Held, Parted. -/
import Derived.Test.YtjppbomngnomhaaGreatDoorMx7
set_option linter.unnecessarySimpa false
set_option linter.unusedSimpArgs false
set_option linter.unusedVariables false
set_option maxRecDepth 100000
set_option maxHeartbeats 32000000
namespace Go.Proofs.YtjppbomngnomhaaGreatDoor
open Go.RowKit Pl
namespace Pl
theorem common_eq : ∀ (k : Nat) (a b : Bs), a.take k = b.take k → k ≤ a.length → k ≤ b.length → (∀ (h1 : k < a.length) (h2 : k < b.length), a[k] ≠ b[k]) → common a b = k
 | 0, [], b, _, _, _, _ => by simp [common]
 | 0, x :: r, [], _, _, _, _ => by simp [common]
 | 0, x :: r, y :: s, _, _, _, h => by
  have := h (by simp) (by simp)
  simp at this
  simp [common, this]
 | k + 1, [], b, _, h, _, _ => by simp at h
 | k + 1, x :: r, [], _, _, h, _ => by simp at h
 | k + 1, x :: r, y :: s, h1, h2, h3, h4 => by
  simp at h1 h2 h3
  obtain ⟨rfl, h1⟩ := h1
  have := common_eq k r s h1 h2 h3 (fun a b => by
   have := h4 (by simp; omega) (by simp; omega)
   simpa using this)
  simp [common, this]
end Pl
theorem ncommon_any (a b : Bs) (ha : a.length ≤ 9223372036854775806) (hb : b.length ≤ 9223372036854775806) (w : World) :
  Calls Tryz.prog 66 #[.string ⟨List.toArray a⟩, .string ⟨List.toArray b⟩] w fun e w' => e = .returned (.int .i64 ((common a b : Nat))) ∧ ∃ n, w' = w.drewN n := by
 generalize hc : common a b = c
 have HC := Lib.hid hc
 clear hc
 go_enter Tryz.func66, Tryz.ntmps66
 go_wp2_with fail
 go_loopw [5] (fun s5 wr => ∃ k : Nat, s5 = .int .i64 k ∧ k ≤ a.length ∧ k ≤ b.length ∧ Hid (a.take k = b.take k) ∧ ∃ n, wr = w.drewN n) (fun s5 _ => a.length - (intOf s5).toNat)
 case atStart => exact ⟨0, rfl, by omega, by omega, Lib.hid (by simp), 0, rfl⟩
 case round =>
  obtain ⟨k, rfl, hka, hkb, HT, nq, rfl⟩ := hrel
  by_cases h1 : k < a.length
  ·have d1 : decide ((k : Int) < (a.length : Int)) = true := by simp; omega
   by_cases h2 : k < b.length
   ·have d2 : decide ((k : Int) < (b.length : Int)) = true := by simp; omega
    have i1 : (k : Int) < (a.length : Int) := by omega
    have i2 : (k : Int) < (b.length : Int) := by omega
    have hx := a[k].toNat_lt
    have hy := b[k].toNat_lt
    have HS : Hid (a.take (k + 1) = b.take (k + 1) ↔ a[k] = b[k]) := Lib.hid (by
     rw [List.take_succ_eq_append_getElem h1, List.take_succ_eq_append_getElem h2, HT.out, List.append_cancel_left_eq]
     simp)
    by_cases h3 : a[k] = b[k]
    ·have HT2 := Lib.hid (HS.out.2 h3)
     have e3 : ((a[k].toNat : Int) == (b[k].toNat : Int)) = true := by rw [h3]; simp
     clear h3 HS
     go_wp2_with fail
     go_quiet (fail)
     go_wp2_with fail
     exact ⟨⟨k + 1, by go_num, by omega, by omega, HT2, _, rfl⟩, by simp [intOf]; omega⟩
    ·have e3 : ((a[k].toNat : Int) == (b[k].toNat : Int)) = false := by
      rw [beq_eq_false_iff_ne]
      intro e
      exact h3 (UInt8.toNat_inj.1 (by omega))
     have HZ : Hid (c = k) := Lib.hid (by rw [← HC.out]; exact common_eq k a b HT.out hka hkb (fun _ _ => h3))
     clear h3 HS
     go_wp2_with fail
     go_quiet (fail)
     go_wp2_with fail
     go_ret
     exact ⟨by rw [HZ.out]; rfl, _, World.drewN_drewN _ _ _⟩
   ·have d2 : decide ((k : Int) < (b.length : Int)) = false := by simp; omega
    have HZ : Hid (c = k) := Lib.hid (by rw [← HC.out]; exact common_eq k a b HT.out hka hkb (fun _ h => absurd h h2))
    go_wp2_with fail
    go_quiet (fail)
    go_wp2_with fail
    go_ret
    exact ⟨by rw [HZ.out]; rfl, _, World.drewN_drewN _ _ _⟩
  ·have d1 : decide ((k : Int) < (a.length : Int)) = false := by simp; omega
   have HZ : Hid (c = k) := Lib.hid (by rw [← HC.out]; exact common_eq k a b HT.out hka hkb (fun h => absurd h h1))
   go_wp2_with fail
   go_quiet (fail)
   go_wp2_with fail
   go_ret
   exact ⟨by rw [HZ.out]; rfl, _, World.drewN_drewN _ _ _⟩
def KeyAt (k : Bs) (B : Nat) (w : World) (e : Ending) (w' : World) : Prop := ∃ c : Int, e = .returned (.tuple #[.string ⟨List.toArray k⟩, .int .i64 c]) ∧ Below B w w'
theorem nkey_any (p : Bs) (hs : p.length ≤ 35184372088832) (w : World) :
  Calls Tryz.prog 34 #[.string ⟨List.toArray p⟩] w (KeyAt (keyP p) w.heap.size w) := by
 generalize hk : keyP p = kk
 have HK := Lib.hid hk
 clear hk
 have hft := nfit_any p (by omega) w
 cases hf : fit p
 ·have HZ : Hid (kk = []) := Lib.hid (by rw [← HK.out]; simp [keyP, hf])
  rw [hf] at hft
  clear hf
  go_enter Tryz.func34, Tryz.ntmps34
  go_wp2_with fail
  refine hft.mono ?_
  rintro e w1 ⟨rfl, rfl⟩
  clear hft
  go_wp2_with fail
  go_ret2
  exact ⟨_, by rw [HZ.out]; rfl, Below.refl _ _⟩
 ·rw [hf] at hft
  by_cases he : p.length % 2 = 0
  ·have hj := njoined_any p hf hs
   have HZ : Hid (kk = joined p) := Lib.hid (by rw [← HK.out]; simp [keyP, hf, he])
   have e2 : (((p.length : Int) % 2) == 1) = false := by rw [beq_eq_false_iff_ne]; omega
   clear hf he
   go_enter Tryz.func34, Tryz.ntmps34
   go_wp2_with fail
   refine hft.mono ?_
   rintro e w1 ⟨rfl, rfl⟩
   clear hft
   go_wp2_with fail
   refine (hj _).mono ?_
   rintro e w2 ⟨rfl, hb⟩
   go_wp2_with fail
   go_ret2
   exact ⟨_, by rw [HZ.out]; rfl, hb⟩
  ·have HZ : Hid (kk = []) := Lib.hid (by rw [← HK.out]; simp [keyP, he])
   have e2 : (((p.length : Int) % 2) == 1) = true := by rw [beq_iff_eq]; omega
   clear hf he
   go_enter Tryz.func34, Tryz.ntmps34
   go_wp2_with fail
   refine hft.mono ?_
   rintro e w1 ⟨rfl, rfl⟩
   clear hft
   go_wp2_with fail
   go_ret2
   exact ⟨_, by rw [HZ.out]; rfl, Below.refl _ _⟩
end Go.Proofs.YtjppbomngnomhaaGreatDoor
namespace Go.Proofs.YtjppbomngnomhaaGreatDoor
open Go.RowKit Pl
theorem common_all (p q : Bs) : common p q = p.length ↔ q.take p.length = p := by
 constructor
 ·intro h
  have := common_take p q
  rw [h, List.take_length] at this
  exact this.symm
 ·intro h
  have hl : p.length ≤ q.length := by
   have := congrArg List.length h
   simp at this; omega
  exact common_eq p.length p q (by rw [List.take_length, h]) (Nat.le_refl _) hl (fun h1 => absurd h1 (Nat.lt_irrefl _))
theorem look_miss (t : Tri) (q : Bs) (h : common (pathT t) q ≠ (pathT t).length) : Pl.look t q = [] := by
 rw [Ne, common_all] at h
 cases t with
 | nil => rfl
 | leaf p v =>
  simp only [pathT] at h
  simp only [Pl.look]
  rw [if_neg]
  intro e
  subst e
  simp at h
 | ext p t =>
  simp only [pathT] at h
  simp only [Pl.look]
  rw [if_neg h]
 | br v kids => simp [pathT] at h
theorem look_ext (t : Tri) (q : Bs) (hk : kindT t = 2) (h : common (pathT t) q = (pathT t).length) : Pl.look t q = Pl.look (kidsOf t 0) (q.drop (pathT t).length) := by
 rw [common_all] at h
 cases t with
 | ext p t =>
  simp only [pathT] at h
  simp only [Pl.look, kidsOf, updT, pathT]
  rw [if_pos h]
  simp
 | nil => simp [kindT] at hk
 | leaf p v => simp [kindT] at hk
 | br v kids => simp [kindT] at hk
theorem look_end (t : Tri) (q : Bs) (hk : kindT t ≠ 2) (h : common (pathT t) q = (pathT t).length) (hd : q.drop (pathT t).length = []) : Pl.look t q = valT t := by
 rw [common_all] at h
 cases t with
 | ext p t => simp [kindT] at hk
 | nil => rfl
 | leaf p v =>
  simp only [pathT] at h hd
  have e : q = p := by
   conv => lhs; rw [← List.take_append_drop p.length q, h, hd, List.append_nil]
  simp [Pl.look, valT, e]
 | br v kids =>
  simp only [pathT] at hd
  have e : q = [] := by simpa using hd
  simp [Pl.look, valT, e]
theorem look_on (t : Tri) (q : Bs) (a : UInt8) (r : Bs) (hk : kindT t ≠ 2) (h : common (pathT t) q = (pathT t).length) (hd : q.drop (pathT t).length = a :: r) : Pl.look t q = Pl.look (kidsOf t a.toNat) r := by
 rw [common_all] at h
 cases t with
 | ext p t => simp [kindT] at hk
 | nil => rfl
 | leaf p v =>
  simp only [pathT] at h hd
  have e : q ≠ p := by intro e; subst e; simp at hd
  simp [Pl.look, kidsOf, noT, e]
 | br v kids =>
  simp only [pathT] at hd
  have e : q = a :: r := by simpa using hd
  subst e
  rfl
theorem okT_path (t : Tri) (n : Nat) (h : okT t n) : (pathT t).length ≤ n ∧ fit (pathT t) = true ∧ (kindT t = 2 → pathT t ≠ []) := by
 cases t with
 | nil => simp [pathT, kindT, fit]
 | leaf p v => exact ⟨h.2, h.1, by simp [kindT]⟩
 | ext p t => exact ⟨h.2.1, h.1, fun _ => h.2.2.1.2⟩
 | br v kids => simp [pathT, kindT, fit]
theorem okT_kid (t : Tri) (n : Nat) (h : okT t n) (i : Nat) : okT (kidsOf t i) n := by
 cases t with
 | nil => trivial
 | leaf p v => trivial
 | ext p t =>
  simp only [kidsOf, updT]
  split
  ·exact okT_mono _ _ _ (by omega) h.2.2.2
  ·trivial
 | br v kids =>
  rcases h i with h | ⟨_, _, h⟩
  ·show okT (kids i) n
   rw [h]; trivial
  ·exact okT_mono _ _ _ (by omega) h
theorem kn_ptr {w : World} {b : Nat} {kind : Int} {path val : Bs} {f : Nat → Bs} {ps : Ps} {t s : Bs} {m : Int} (h : Blk w b (kn kind path val f ps t s m).toArray) (k : Nat) (hk : k < 16) : w.cell? ⟨b, 19 + k, none⟩ = some (ptV (ps k)) :=
 (h.cell (19 + k)).trans (pk_pre _ _ _ _ _ _ _ _ k _ (pk_at ps k hk))
def strL : Value → Nat
 | .string s => s.size
 | _ => 0
theorem get_any (t : Tri) (n : Nat) (hn : n ≤ 1000) (p : Option Nat) (q : Bs) (hq : q.length ≤ 100000) (hf : fit q = true) (ho : okT t n) (w : World) (hT : KAt w t p) :
  Calls Tryz.prog 47 #[ptV p, .string ⟨List.toArray q⟩] w fun e w' => e = .returned (.string ⟨List.toArray (Pl.look t q)⟩) ∧ ∃ n, w' = w.drewN n := by
 generalize hz : Pl.look t q = z
 have HZ := Lib.hid hz
 clear hz
 go_enter Tryz.func47, Tryz.ntmps47
 go_wp2_with fail
 go_loopw [0, 1] (fun s0 s1 wr => ∃ (t' : Tri) (p' : Option Nat) (q' : Bs), s0 = ptV p' ∧ s1 = .string ⟨List.toArray q'⟩ ∧ q'.length ≤ 100000 ∧ Hid (KAt w t' p') ∧ Hid (okT t' n) ∧ Hid (fit q' = true) ∧ Hid (Pl.look t' q' = z) ∧ ∃ n, wr = w.drewN n) (fun _ s1 _ => strL s1)
 case atStart => exact ⟨t, p, q, rfl, rfl, hq, Lib.hid hT, Lib.hid ho, Lib.hid hf, HZ, 0, rfl⟩
 case round =>
  obtain ⟨t', p', q', rfl, rfl, hq', HT, HOK, HF, HL, m, rfl⟩ := hrel
  clear HZ hT ho hf
  rcases p' with _ | b
  ·have HE : Hid (z = []) := Lib.hid (by rw [← HL.out, HT.out.none']; rfl)
   go_wp2_with fail
   go_ret
   exact ⟨by rw [HE.out]; rfl, m, rfl⟩
  ·obtain ⟨hne, ps, hps, ⟨c0, c1, c2, _, _, _, c6⟩, hB⟩ := HT.out.open
   obtain ⟨o1, o2, o3⟩ := okT_path t' n HOK.out
   have hcl := common_le (pathT t') q'
   have hcm := fun W => ncommon_any (pathT t') q' (by omega) (by omega) W
   have HM := Lib.hid (look_miss t' q')
   have HX := Lib.hid (look_ext t' q')
   have HN := Lib.hid (look_end t' q')
   have HO := Lib.hid (look_on t' q')
   have HK := Lib.hid (fun i => okT_kid t' n HOK.out i)
   have HP := Lib.hid hps
   have HB := Lib.hid (fun k (h : k < 16) => kn_ptr hB k h)
   have HQ := Lib.hid o3
   clear hps hB hne o2 o3
   generalize kindT t' = kd at *
   generalize valT t' = vt at *
   generalize pathT t' = pt at *
   generalize common pt q' = c at *
   have HCM := Lib.hid hcm
   clear hcm
   by_cases h1 : c = pt.length
   ·subst h1
    have d1 : decide ((pt.length : Int) < (pt.length : Int)) = false := by simp
    have hdl : (q'.drop pt.length).length = q'.length - pt.length := List.length_drop
    have HF2 := Lib.hid (fit_split q' pt.length HF.out).2
    have hst : List.take (q'.length - pt.length) (q'.drop pt.length) = q'.drop pt.length := List.take_of_length_le (by omega)
    by_cases h2 : kd = 2
    ·have HE := Lib.hid (HX.out h2 rfl)
     have hp1 : 1 ≤ pt.length := by
      rcases Nat.eq_zero_or_pos pt.length with h | h
      ·exact absurd (List.length_eq_zero_iff.1 h) (HQ.out h2)
      ·exact h
     have hk2 : (kd == 2) = true := by simpa using h2
     clear h2 HM HN HO HX
     go_wp2_with fail
     refine (HCM.out _).mono ?_
     rintro e w2 ⟨rfl, n2, rfl⟩
     go_wp2_with fail
     exact ⟨⟨kidsOf t' 0, ps 0, q'.drop pt.length, rfl, by simp, by omega, Lib.hid (HP.out 0 (by omega)), Lib.hid (HK.out 0), HF2, Lib.hid (by rw [← HE.out]; exact HL.out), _, rfl⟩, by simp [strL, ByteArray.size]; omega⟩
    ·have hk2 : (kd == 2) = false := by simpa using h2
     cases hd : q'.drop pt.length with
     | nil =>
      rw [hd] at hst
      have HE : Hid (z = vt) := Lib.hid (by rw [← HL.out]; exact HN.out h2 rfl hd)
      clear h2 HM HN HO HX
      go_wp2_with fail
      refine (HCM.out _).mono ?_
      rintro e w2 ⟨rfl, n2, rfl⟩
      go_wp2_with fail
      go_ret
      exact ⟨by rw [HE.out]; rfl, _, rfl⟩
     | cons a r =>
      rw [hd] at hst
      have HE := Lib.hid (HO.out a r h2 rfl hd)
      have hfa := (fit_cons a r).1 (by rw [← hd]; exact HF2.out)
      obtain ⟨ha, hfr⟩ := hfa
      have HFR := Lib.hid hfr
      have hb := HB.out a.toNat ha
      have i1 : 0 ≤ (a.toNat : Int) ∧ (a.toNat : Int) < 16 := by omega
      have hln : r.length + 1 ≤ q'.length := by
       have := congrArg List.length hd
       simp at this; omega
      have hpa := HP.out a.toNat ha
      have HPA := Lib.hid hpa
      clear h2 HM HN HO HX hfr hpa hdl
      go_wp2_with fail
      refine (HCM.out _).mono ?_
      rintro e w2 ⟨rfl, n2, rfl⟩
      go_wp2_with fail
      go_quiet (fail)
      go_wp2_with fail
      exact ⟨⟨kidsOf t' a.toNat, ps a.toNat, r, rfl, by simp, by omega, HPA, Lib.hid (HK.out _), HFR, Lib.hid (by rw [← HE.out]; exact HL.out), _, rfl⟩, by simp [strL, ByteArray.size]; omega⟩
   ·have d1 : decide ((c : Int) < (pt.length : Int)) = true := by simp; omega
    have HE : Hid (z = []) := Lib.hid (by rw [← HL.out]; exact HM.out h1)
    clear HM HN HO HX
    go_wp2_with fail
    refine (HCM.out _).mono ?_
    rintro e w2 ⟨rfl, n2, rfl⟩
    go_wp2_with fail
    go_ret
    exact ⟨by rw [HE.out]; rfl, _, rfl⟩
end Go.Proofs.YtjppbomngnomhaaGreatDoor
namespace Go.Proofs.YtjppbomngnomhaaGreatDoor
open Go.RowKit
theorem wpH_startB {P : Program} {id : Nat} {ops : Array Oper} {Q : Exit → Act → World → Prop} {a : Act} {w : World} (B : Nat) (hm : P.follows .mixedOrders = true)
  (h : Below B w w.drew → wpAnyH P .any ops Q (Below B w) ops.size (Array.replicate ops.size false) a w.drew) : (Code.region id ops true).wp P Q a w :=
 wp_region_held_drew hm (Below.refl _ _).drew h
theorem wpO_op {P : Program} {ops : Array Oper} {Q : Exit → Act → World → Prop} {a : Act} {w : World} {K : Act → World → Prop} {i : Nat} {oi : Oper} (hi : ops[i]? = some oi) (hw : Region.wanted oi (yielded ops a.tmps) = true) (h : oi.wp P a w K Q) : wpOp P ops Q i K a w := by
 unfold wpOp
 simp only [hi, hw, if_true]
 exact .inl h
theorem wp_allocK {P : Program} {o : Oper} {a : Act} {w : World} {K : Act → World → Prop} {Q : Exit → Act → World → Prop} (t : TypeId) (ho : o.op = .alloc t) (z : Array Value) (hz : ∀ w : World, (execOp a.eval o).run P w = .ok (.value (.pointer (some ⟨w.heap.size, 0, none⟩))) (w.alloc (.cells z t)))
  (h : ∀ k w', w.heap.size ≤ k → Blk w' k z → Below w.heap.size w w' → K (a.put o.dst (.pointer (some ⟨k, 0, none⟩))) w') : o.wp P a w K Q := by
 unfold Oper.wp
 rw [hz w]
 exact h _ _ (Nat.le_refl _) (Blk.new _ _ _) (Below.allocS (Below.refl _ _) _)
theorem wp_newK {P : Program} {o : Oper} {a : Act} {w : World} {K : Act → World → Prop} {Q : Exit → Act → World → Prop} (t : TypeId) (z : Array Value) (u : Nat → Value) (hz : ∀ w : World, (execOp a.eval o).run P w = .ok (.value (u w.heap.size)) (w.alloc (.cells z t)))
  (h : ∀ k w', w.heap.size ≤ k → w'.heap[k]? = some (.cells z t) → k < w'.heap.size → Below w.heap.size w w' → K (a.put o.dst (u k)) w') : o.wp P a w K Q := by
 unfold Oper.wp
 rw [hz w]
 exact h _ _ (Nat.le_refl _) (heap_alloc_new w _) (by simp) (Below.allocS (Below.refl _ _) _)
theorem Blk.of_heap {w : World} {k : Nat} {z : Array Value} {t : TypeId} (hh : w.heap[k]? = some (.cells z t)) (hk : k < w.heap.size) : Blk w k z :=
 ⟨fun o => by simp [World.cell?, hh], fun o => by simp [World.frozen?, hh], hk⟩
end Go.Proofs.YtjppbomngnomhaaGreatDoor
namespace Go.Proofs.YtjppbomngnomhaaGreatDoor
open Go.RowKit Pl
theorem run_storePtr (w : World) (b o : Nat) (q : Option Addr) (u : Value) (hc : w.cell? ⟨b, o, none⟩ = some u) (hf : w.frozen? ⟨b, o, none⟩ = false) :
  (Instr.storeAt 66 (.pointer (some ⟨b, o, none⟩)) (.pointer q)).run Tryz.prog w = .ok () (w.setCell ⟨b, o, none⟩ (.pointer q)) := by
 go_simp
theorem wp_storeP {o : Oper} {a : Act} {w : World} {K : Act → World → Prop} {Q : Exit → Act → World → Prop} (x y : Operand) (ho : o.op = .store 66 x y) (b i : Nat) (hx : a.eval x = .pointer (some ⟨b, i, none⟩)) (q : Option Addr) (hy : a.eval y = .pointer q)
  (u : Value) (hc : w.cell? ⟨b, i, none⟩ = some u) (hf : w.frozen? ⟨b, i, none⟩ = false) (h : K (a.put o.dst undef) (w.setCell ⟨b, i, none⟩ (.pointer q))) : o.wp Tryz.prog a w K Q := by
 unfold Oper.wp execOp
 simp only [ho, hx, hy, Sem.run_bind, Sem.run_pure, Result.andThen_ok, run_storePtr w b i q u hc hf]
 exact h
theorem wpList_allocP {ops : Array Oper} {rest : List Oper} {o : Oper} {a : Act} {w : World} {Q : Exit → Act → World → Prop} (hgd : o.guard = none) (ho : o.op = .alloc 77)
  (h : ∀ k w', w.heap.size ≤ k → Blk w' k (pk noP).toArray → Below w.heap.size w w' → wpList Tryz.prog ops Q rest (a.put o.dst (.pointer (some ⟨k, 0, none⟩))) w') : wpList Tryz.prog ops Q (o :: rest) a w :=
 wpList_plain hgd fun K hK => wp_allocK 77 ho (pk noP).toArray (fun w => by
  unfold execOp
  simp only [ho, pk_no]
  go_simp) (fun k w' h1 h2 h3 => hK _ _ (h k w' h1 h2 h3))
theorem pk_set (ps : Ps) (p : Option Nat) : ∀ i, i < 16 → (pk ps).toArray.setIfInBounds i (ptV p) = (pk (updP ps i p)).toArray
 | 0, _ => rfl
 | 1, _ => rfl
 | 2, _ => rfl
 | 3, _ => rfl
 | 4, _ => rfl
 | 5, _ => rfl
 | 6, _ => rfl
 | 7, _ => rfl
 | 8, _ => rfl
 | 9, _ => rfl
 | 10, _ => rfl
 | 11, _ => rfl
 | 12, _ => rfl
 | 13, _ => rfl
 | 14, _ => rfl
 | 15, _ => rfl
 | i + 16, h => absurd h (by omega)
theorem pk_cell {w : World} {m : Nat} {ps : Ps} (h : Blk w m (pk ps).toArray) (i : Nat) (hi : i < 16) : w.cell? ⟨m, i, none⟩ = some (ptV (ps i)) := (h.cell i).trans (by rw [List.getElem?_toArray]; exact pk_at ps i hi)
theorem KAt.other {w : World} {m : Nat} {ps : Ps} (hm : Blk w m (pk ps).toArray) (i : Nat) (v : Value) {t : Tri} {p : Option Nat} (h : KAt w t p) : KAt (w.setCell ⟨m, i, none⟩ v) t p := by
 induction h with
 | nil => exact .nil
 | knot t b ps' h hk hB ih =>
  refine .knot t b ps' h ih (hB.other (a := ⟨m, i, none⟩) ?_ v)
  intro e
  have e' : m = b := e
  subst e'
  have c1 := hB.kn.many
  rw [hm.cell 37, List.getElem?_toArray, List.getElem?_eq_none (by rw [pk_len]; omega)] at c1
  cases c1
theorem kat_other {w : World} {m : Nat} {ps qs : Ps} (hm : Blk w m (pk qs).toArray) (i : Nat) (v : Value) {f : Nat → Tri} (h : ∀ i, i < 16 → KAt w (f i) (ps i)) : ∀ j, j < 16 → KAt (w.setCell ⟨m, i, none⟩ v) (f j) (ps j) := fun j hj => (h j hj).other hm i v
theorem kat_keep {W w : World} (hb : Below W.heap.size W w) {f : Nat → Tri} {ps : Ps} (h : ∀ i, i < 16 → KAt W (f i) (ps i)) : ∀ i, i < 16 → KAt w (f i) (ps i) := fun i hi => (h i hi).keep hb
theorem Mod.keepC {l : List Nat} {W w : World} (h : Mod l W w) {b o : Nat} {v : Value} (hn : b ∉ l) (hc : W.cell? ⟨b, o, none⟩ = some v) : w.cell? ⟨b, o, none⟩ = some v :=
 (World.cell?_of_block (w := W) (h.block b (by
  rcases Nat.lt_or_ge b W.heap.size with h1 | h1
  ·exact h1
  ·simp [World.cell?, Array.getElem?_eq_none h1] at hc) hn)).trans hc
def partedT (t : Tri) (c : Nat) (q v : Bs) : Tri := match t with
 | .leaf p w => partT (ownT p w c) (oldK (fun r => .leaf r w) (p.drop c)) q v
 | .ext p t => partT [] (oldK (fun r => joinT r t) (p.drop c)) q v
 | t => t
theorem parted_any (t : Tri) (b c : Nat) (q v : Bs) (n : Nat) (hn : n ≤ 900) (hq : q.length ≤ 900) (hfq : fit q = true) (ho : okT t n) (hkd : (kindT t = 1 ∧ c ≤ (pathT t).length) ∨ (kindT t = 2 ∧ c < (pathT t).length)) (w : World) (hk : KT w) (hT : KAt w t (some b)) :
  Calls Tryz.prog 67 #[.pointer (some ⟨b, 0, none⟩), .int .i64 c, .string ⟨List.toArray q⟩, .string ⟨List.toArray v⟩] w (KOut w.heap.size w (partedT t c q v)) := by
 obtain ⟨hne, ps, hps, ⟨c0, c1, c2, _, _, _, c6⟩, _⟩ := hT.open
 have hop := okT_path t n ho
 have HK := Lib.hid hk
 have HBL := Lib.hid (show b < w.heap.size from by obtain ⟨_, _, _, _, h⟩ := hT.open; exact h.lt)
 cases t with
 | nil => exact absurd rfl hne
 | br v kids => simp [kindT] at hkd
 | leaf p w0 =>
  simp only [kindT, pathT, valT] at c0 c1 c2 hop hkd
  have hcp : c ≤ p.length := by omega
  have hpl := hop.1
  have hfd := (fit_split p c hop.2.1).2
  have hci : (c : Int) ≤ (p.length : Int) := by omega
  have hst : List.take (p.length - c) (p.drop c) = p.drop c := List.take_of_length_le (by simp)
  have hdl : (p.drop c).length = p.length - c := List.length_drop
  clear hkd hop hne hps hT ho hk c6
  cases hd : p.drop c with
  | nil =>
   rw [hd] at hst
   have HG : Hid (partedT (.leaf p w0) c q v = partT w0 noT q v) := Lib.hid (by simp [partedT, ownT, hd, oldK])
   rw [HG.out]
   clear hfd hdl
   cases q with
   | nil =>
    rw [show partT w0 noT [] v = .br v noT from rfl]
    go_enter Tryz.func67, Tryz.ntmps67
    go_wp2_with (first
     | (refine wpList_allocP rfl rfl ?_
        intro m w1 hm BT hbT
        replace c0 := keepC hbT c0
        replace c1 := keepC hbT c1
        replace c2 := keepC hbT c2
        have HT := Lib.hid (kat_no w1))
     | (refine wpList_rowLoad row16p rfl (.tmp 9) rfl rfl (pk_len noP) BT ?_)
     | fail)
    clear c0 c1 c2 hd hst hci
    have HBR := Lib.hid (branch_any v noT noP _ (HK.out.keep hbT) HT.out)
    refine HBR.out.mono ?_
    rintro e w9 ⟨b9, rfl, hb9, hK9⟩
    go_wp2_with fail
    go_ret
    exact ⟨b9, rfl, hbT.trans (hb9.mono hbT.size), hK9⟩
   | cons a r =>
    rw [show partT w0 noT (a :: r) v = .br w0 (updT noT a.toNat (.leaf r v)) from rfl]
    have ha : a.toNat < 16 := ((fit_cons a r).1 hfq).1
    have HLF := Lib.hid (fun W (h : KT W) => leaf_any r v (by simp at hq; omega) W h)
    have i1 : 0 ≤ (a.toNat : Int) ∧ (a.toNat : Int) < 16 := by omega
    have i2 : (1 : Int) ≤ (r.length : Int) + 1 := by omega
    go_enter Tryz.func67, Tryz.ntmps67
    go_wp2_with (first
     | (refine wpList_allocP rfl rfl ?_
        intro m w1 hm BT hbT
        replace c0 := keepC hbT c0
        replace c1 := keepC hbT c1
        replace c2 := keepC hbT c2
        have HT := Lib.hid (kat_no w1))
     | fail)
    clear c0 c1 c2 hd hst hci
    have HBT := Lib.hid BT
    have HbT := Lib.hid hbT
    clear BT hbT hfq
    refine wpH_startM [m] (by kernel_rfl) (fun hS => ?_)
    (refine hP 0 ?_ ⟨some 59, .move (.tmp 2), 9, "", #[], none⟩ hS ?_ ?_; rotate_left; focus (intro w; go_simp; try with_reducible rfl))
    try simp only [pna, pnb, pnc, pnd, pne]
    (refine hP 1 ?_ ⟨some 60, .index 9 (.tmp 59) (.const (.int .i64 0)), 5, "", #[], none⟩ hS ?_ ?_; rotate_left; focus (intro w; go_simp; try with_reducible rfl))
    try simp only [pna, pnb, pnc, pnd, pne]
    (refine hP 2 ?_ ⟨some 61, .move (.tmp 2), 9, "", #[], none⟩ hS ?_ ?_; rotate_left; focus (intro w; go_simp; try with_reducible rfl))
    try simp only [pna, pnb, pnc, pnd, pne]
    (refine hP 3 ?_ ⟨some 62, .slice 9 (.tmp 61) (some (.const (.int .i64 1))) none none, 9, "", #[], none⟩ hS ?_ ?_; rotate_left; focus (intro w; go_simp; try with_reducible rfl))
    try simp only [pna, pnb, pnc, pnd, pne]
    (refine hP 4 ?_ ⟨some 63, .move (.tmp 3), 9, "", #[], none⟩ hS ?_ ?_; rotate_left; focus (intro w; go_simp; try with_reducible rfl))
    try simp only [pna, pnb, pnc, pnd, pne]
    refine wpH_call 5 (oi := { dst := some 64, op := Op.call { callee := Callee.value (Operand.func 64), args := #[Operand.tmp 62, Operand.tmp 63], argTypes := #[9, 9] }, type := 66, pos := "knot.go:115", after := #[{ on := 3, ground := Ground.data }, { on := 4, ground := Ground.data }], guard := none }) rfl (by kernel_rfl) (by rfl) (HLF.out _ ((HK.out.keep HbT.out).keep (Below.refl _ _).drew)) ?_ ?_
    ·(go_simp; try rfl)
    rintro e w' ⟨b8, rfl, hbx, hK8⟩
    refine ⟨_, rfl, hS.trans (Mod.of_below hbx), ?_⟩
    replace hS := hS.trans (Mod.of_below hbx)
    try simp only [pna, pnb, pnc, pnd, pne]
    (refine hP 6 ?_ ⟨some 65, .indexAddr 77 (.tmp 9) (.tmp 60), 0, "", #[], none⟩ hS ?_ ?_; rotate_left; focus (intro w; go_simp; try with_reducible rfl))
    try simp only [pna, pnb, pnc, pnd, pne]
    refine wpH_op 7 (oi := { dst := none, op := Op.store 66 (Operand.tmp 65) (Operand.tmp 64), type := 0, pos := "knot.go:115", after := #[{ on := 6, ground := Ground.data }, { on := 5, ground := Ground.data }, { on := 5, ground := Ground.chain }, { on := 0, ground := Ground.phase }, { on := 1, ground := Ground.phase }, { on := 2, ground := Ground.phase }, { on := 3, ground := Ground.phase }, { on := 4, ground := Ground.phase }, { on := 5, ground := Ground.phase }], guard := none }) rfl (by kernel_rfl) (by rfl) ?_
    refine wp_storeP (.tmp 65) (.tmp 64) rfl m a.toNat rfl (some ⟨b8, 0, none⟩) rfl _ (pk_cell (HBT.out.drew.keep hbx) a.toNat ha) ((HBT.out.drew.keep hbx).froz _) ?_
    refine ⟨hS.setCell (.inl (by simp)) _, ?_⟩
    try simp only [pna, pnb, pnc, pnd, pne]
    refine wpAnyH_done (by kernel_rfl) ?_ _
    have B3 := HBT.out.drew.keep hbx
    have HT3 := Lib.hid (kat_upd (kat_other B3 a.toNat (.pointer (some ⟨b8, 0, none⟩)) (kat_keep hbx (kat_keep (Below.refl _ _).drew HT.out))) a.toNat (hK8.other B3 a.toNat (.pointer (some ⟨b8, 0, none⟩))))
    have B4 := B3.set a.toNat (ptV (some b8))
    rw [pk_set _ _ _ ha, ptV_some] at B4
    have hb4 : Below w.heap.size w _ := ((HbT.out.drew).trans (hbx.mono HbT.out.size)).setCell (p := ⟨m, a.toNat, none⟩) hm (.pointer (some ⟨b8, 0, none⟩))
    clear hbx hK8 hS B3
    generalize World.setCell _ ⟨m, a.toNat, none⟩ (.pointer (some ⟨b8, 0, none⟩)) = W3 at *
    have HBR := Lib.hid (branch_any w0 (updT noT a.toNat (.leaf r v)) _ W3 (HK.out.keep hb4) HT3.out)
    go_wp2_with (first
     | (refine wpList_rowLoad row16p rfl (.tmp 9) rfl rfl (pk_len (updP noP a.toNat (some b8))) B4 ?_)
     | fail)
    refine HBR.out.mono ?_
    rintro e w9 ⟨b9, rfl, hb9, hK9⟩
    go_wp2_with fail
    go_ret
    exact ⟨b9, rfl, hb4.trans (hb9.mono hb4.size), hK9⟩
  | cons x y =>
   rw [hd] at hst hfd hdl
   have HG : Hid (partedT (.leaf p w0) c q v = partT [] (updT noT x.toNat (.leaf y w0)) q v) := Lib.hid (by simp [partedT, ownT, hd, oldK])
   rw [HG.out]
   have hx : x.toNat < 16 := ((fit_cons x y).1 hfd).1
   have hyl : y.length ≤ 1000 := by simp at hdl; omega
   have HLX := Lib.hid (fun W (h : KT W) => leaf_any y w0 hyl W h)
   have i0 : 0 ≤ (x.toNat : Int) ∧ (x.toNat : Int) < 16 := by omega
   have i3 : (1 : Int) ≤ (y.length : Int) + 1 := by omega
   clear hfd hdl
   go_enter Tryz.func67, Tryz.ntmps67
   go_wp2_with (first
    | (refine wpList_allocP rfl rfl ?_
       intro m w1 hm B1 hb1
       replace c0 := keepC hb1 c0
       replace c1 := keepC hb1 c1
       replace c2 := keepC hb1 c2)
    | fail)
   have HC2 := Lib.hid c2
   have hbl : b < m := by have := HBL.out; omega
   obtain ⟨W, hW⟩ := Below.name hb1
   subst hW
   have HB1 := Lib.hid B1
   have HW1 := Lib.hid hb1
   clear B1 hb1 c0 c1 c2 hd hst hci
   refine wpH_startM [m] (by kernel_rfl) (fun hS => ?_)
   (refine hP 0 ?_ ⟨some 45, .move (.tmp 11), 9, "", #[], none⟩ hS ?_ ?_; rotate_left; focus (intro w; go_simp; try with_reducible rfl))
   try simp only [pna, pnb, pnc, pnd, pne]
   (refine hP 1 ?_ ⟨some 46, .index 9 (.tmp 45) (.const (.int .i64 0)), 5, "", #[], none⟩ hS ?_ ?_; rotate_left; focus (intro w; go_simp; try with_reducible rfl))
   try simp only [pna, pnb, pnc, pnd, pne]
   (refine hP 2 ?_ ⟨some 47, .move (.tmp 11), 9, "", #[], none⟩ hS ?_ ?_; rotate_left; focus (intro w; go_simp; try with_reducible rfl))
   try simp only [pna, pnb, pnc, pnd, pne]
   (refine hP 3 ?_ ⟨some 48, .slice 9 (.tmp 47) (some (.const (.int .i64 1))) none none, 9, "", #[], none⟩ hS ?_ ?_; rotate_left; focus (intro w; go_simp; try with_reducible rfl))
   try simp only [pna, pnb, pnc, pnd, pne]
   (refine hP 4 ?_ ⟨some 49, .move (.tmp 0), 66, "", #[], none⟩ hS ?_ ?_; rotate_left; focus (intro w; go_simp; try with_reducible rfl))
   try simp only [pna, pnb, pnc, pnd, pne]
   (refine hP 5 ?_ ⟨some 50, .nilCheck (.tmp 49), 0, "", #[], none⟩ hS ?_ ?_; rotate_left; focus (intro w; go_simp; try with_reducible rfl))
   try simp only [pna, pnb, pnc, pnd, pne]
   (refine hP 6 ?_ ⟨some 51, .fieldAddr 79 (.tmp 50) 0, 0, "", #[], none⟩ hS ?_ ?_; rotate_left; focus (intro w; go_simp; try with_reducible rfl))
   try simp only [pna, pnb, pnc, pnd, pne]
   (refine hP 7 ?_ ⟨some 52, .fieldAddr 76 (.tmp 51) 2, 0, "", #[], none⟩ hS ?_ ?_; rotate_left; focus (intro w; go_simp; try with_reducible rfl))
   try simp only [pna, pnb, pnc, pnd, pne]
   refine wpH_load 8 (.string ⟨List.toArray w0⟩) (oi := { dst := some 53, op := Op.load 9 (Operand.tmp 52), type := 9, pos := "knot.go:108", after := #[{ on := 7, ground := Ground.data }], guard := none }) rfl (by kernel_rfl) (by kernel_rfl) (by kernel_rfl) (by rfl) hS (fun _ _ _ h => h) (fun w hb => (by have c := hb.keepC (by simp; omega) HC2.out; go_simp; try rfl)) ?_
   try simp only [pna, pnb, pnc, pnd, pne]
   refine wpH_call 9 (oi := { dst := some 54, op := Op.call { callee := Callee.value (Operand.func 64), args := #[Operand.tmp 48, Operand.tmp 53], argTypes := #[9, 9] }, type := 66, pos := "knot.go:108", after := #[{ on := 3, ground := Ground.data }, { on := 8, ground := Ground.data }], guard := none }) rfl (by kernel_rfl) (by rfl) (HLX.out _ ((HK.out.keep HW1.out).keep (Below.refl _ _).drew)) ?_ ?_
   ·(go_simp; try rfl)
   rintro e w' ⟨b4, rfl, hbx, hK4⟩
   refine ⟨_, rfl, hS.trans (Mod.of_below hbx), ?_⟩
   replace hS := hS.trans (Mod.of_below hbx)
   try simp only [pna, pnb, pnc, pnd, pne]
   (refine hP 10 ?_ ⟨some 55, .indexAddr 77 (.tmp 9) (.tmp 46), 0, "", #[], none⟩ hS ?_ ?_; rotate_left; focus (intro w; go_simp; try with_reducible rfl))
   try simp only [pna, pnb, pnc, pnd, pne]
   refine wpH_op 11 (oi := { dst := none, op := Op.store 66 (Operand.tmp 55) (Operand.tmp 54), type := 0, pos := "knot.go:108", after := #[{ on := 10, ground := Ground.data }, { on := 9, ground := Ground.data }, { on := 9, ground := Ground.chain }, { on := 0, ground := Ground.phase }, { on := 1, ground := Ground.phase }, { on := 2, ground := Ground.phase }, { on := 3, ground := Ground.phase }, { on := 4, ground := Ground.phase }, { on := 5, ground := Ground.phase }, { on := 6, ground := Ground.phase }, { on := 7, ground := Ground.phase }, { on := 8, ground := Ground.phase }, { on := 9, ground := Ground.phase }], guard := none }) rfl (by kernel_rfl) (by rfl) ?_
   refine wp_storeP (.tmp 55) (.tmp 54) rfl m x.toNat rfl (some ⟨b4, 0, none⟩) rfl _ (pk_cell (HB1.out.drew.keep hbx) x.toNat hx) ((HB1.out.drew.keep hbx).froz _) ?_
   refine ⟨hS.setCell (.inl (by simp)) _, ?_⟩
   try simp only [pna, pnb, pnc, pnd, pne]
   refine wpAnyH_done (by kernel_rfl) ?_ _
   have B3 := HB1.out.drew.keep hbx
   have HT := Lib.hid (kat_upd (kat_no _) x.toNat (hK4.other B3 x.toNat (.pointer (some ⟨b4, 0, none⟩))))
   have BT := B3.set x.toNat (ptV (some b4))
   rw [pk_set _ _ _ hx, ptV_some] at BT
   have hbT : Below w.heap.size w _ := ((HW1.out.drew).trans (hbx.mono HW1.out.size)).setCell (p := ⟨m, x.toNat, none⟩) hm (.pointer (some ⟨b4, 0, none⟩))
   clear hbx hK4 hS B3
   generalize World.setCell _ ⟨m, x.toNat, none⟩ (.pointer (some ⟨b4, 0, none⟩)) = W2 at *
   cases q with
   | nil =>
    rw [show partT [] (updT noT x.toNat (.leaf y w0)) [] v = .br v (updT noT x.toNat (.leaf y w0)) from rfl]
    have HBR := Lib.hid (branch_any v (updT noT x.toNat (.leaf y w0)) (updP noP x.toNat (some b4)) _ (HK.out.keep hbT) HT.out)
    go_wp2_with (first
     | (refine wpList_rowLoad row16p rfl (.tmp 9) rfl rfl (pk_len (updP noP x.toNat (some b4))) BT ?_)
     | fail)
    refine HBR.out.mono ?_
    rintro e w9 ⟨b9, rfl, hb9, hK9⟩
    go_wp2_with fail
    go_ret
    exact ⟨b9, rfl, hbT.trans (hb9.mono hbT.size), hK9⟩
   | cons a r =>
    rw [show partT [] (updT noT x.toNat (.leaf y w0)) (a :: r) v = .br [] (updT (updT noT x.toNat (.leaf y w0)) a.toNat (.leaf r v)) from rfl]
    have ha : a.toNat < 16 := ((fit_cons a r).1 hfq).1
    have HLF := Lib.hid (fun W (h : KT W) => leaf_any r v (by simp at hq; omega) W h)
    have i1 : 0 ≤ (a.toNat : Int) ∧ (a.toNat : Int) < 16 := by omega
    have i2 : (1 : Int) ≤ (r.length : Int) + 1 := by omega
    have HBT := Lib.hid BT
    have HbT := Lib.hid hbT
    clear BT hbT hfq
    go_wp2_with fail
    refine wpH_startM [m] (by kernel_rfl) (fun hS => ?_)
    (refine hP 0 ?_ ⟨some 59, .move (.tmp 2), 9, "", #[], none⟩ hS ?_ ?_; rotate_left; focus (intro w; go_simp; try with_reducible rfl))
    try simp only [pna, pnb, pnc, pnd, pne]
    (refine hP 1 ?_ ⟨some 60, .index 9 (.tmp 59) (.const (.int .i64 0)), 5, "", #[], none⟩ hS ?_ ?_; rotate_left; focus (intro w; go_simp; try with_reducible rfl))
    try simp only [pna, pnb, pnc, pnd, pne]
    (refine hP 2 ?_ ⟨some 61, .move (.tmp 2), 9, "", #[], none⟩ hS ?_ ?_; rotate_left; focus (intro w; go_simp; try with_reducible rfl))
    try simp only [pna, pnb, pnc, pnd, pne]
    (refine hP 3 ?_ ⟨some 62, .slice 9 (.tmp 61) (some (.const (.int .i64 1))) none none, 9, "", #[], none⟩ hS ?_ ?_; rotate_left; focus (intro w; go_simp; try with_reducible rfl))
    try simp only [pna, pnb, pnc, pnd, pne]
    (refine hP 4 ?_ ⟨some 63, .move (.tmp 3), 9, "", #[], none⟩ hS ?_ ?_; rotate_left; focus (intro w; go_simp; try with_reducible rfl))
    try simp only [pna, pnb, pnc, pnd, pne]
    refine wpH_call 5 (oi := { dst := some 64, op := Op.call { callee := Callee.value (Operand.func 64), args := #[Operand.tmp 62, Operand.tmp 63], argTypes := #[9, 9] }, type := 66, pos := "knot.go:115", after := #[{ on := 3, ground := Ground.data }, { on := 4, ground := Ground.data }], guard := none }) rfl (by kernel_rfl) (by rfl) (HLF.out _ ((HK.out.keep HbT.out).keep (Below.refl _ _).drew)) ?_ ?_
    ·(go_simp; try rfl)
    rintro e w' ⟨b8, rfl, hbx, hK8⟩
    refine ⟨_, rfl, hS.trans (Mod.of_below hbx), ?_⟩
    replace hS := hS.trans (Mod.of_below hbx)
    try simp only [pna, pnb, pnc, pnd, pne]
    (refine hP 6 ?_ ⟨some 65, .indexAddr 77 (.tmp 9) (.tmp 60), 0, "", #[], none⟩ hS ?_ ?_; rotate_left; focus (intro w; go_simp; try with_reducible rfl))
    try simp only [pna, pnb, pnc, pnd, pne]
    refine wpH_op 7 (oi := { dst := none, op := Op.store 66 (Operand.tmp 65) (Operand.tmp 64), type := 0, pos := "knot.go:115", after := #[{ on := 6, ground := Ground.data }, { on := 5, ground := Ground.data }, { on := 5, ground := Ground.chain }, { on := 0, ground := Ground.phase }, { on := 1, ground := Ground.phase }, { on := 2, ground := Ground.phase }, { on := 3, ground := Ground.phase }, { on := 4, ground := Ground.phase }, { on := 5, ground := Ground.phase }], guard := none }) rfl (by kernel_rfl) (by rfl) ?_
    refine wp_storeP (.tmp 65) (.tmp 64) rfl m a.toNat rfl (some ⟨b8, 0, none⟩) rfl _ (pk_cell (HBT.out.drew.keep hbx) a.toNat ha) ((HBT.out.drew.keep hbx).froz _) ?_
    refine ⟨hS.setCell (.inl (by simp)) _, ?_⟩
    try simp only [pna, pnb, pnc, pnd, pne]
    refine wpAnyH_done (by kernel_rfl) ?_ _
    have B3 := HBT.out.drew.keep hbx
    have HT3 := Lib.hid (kat_upd (kat_other B3 a.toNat (.pointer (some ⟨b8, 0, none⟩)) (kat_keep hbx (kat_keep (Below.refl _ _).drew HT.out))) a.toNat (hK8.other B3 a.toNat (.pointer (some ⟨b8, 0, none⟩))))
    have B4 := B3.set a.toNat (ptV (some b8))
    rw [pk_set _ _ _ ha, ptV_some] at B4
    have hb4 : Below w.heap.size w _ := ((HbT.out.drew).trans (hbx.mono HbT.out.size)).setCell (p := ⟨m, a.toNat, none⟩) hm (.pointer (some ⟨b8, 0, none⟩))
    clear hbx hK8 hS B3
    generalize World.setCell _ ⟨m, a.toNat, none⟩ (.pointer (some ⟨b8, 0, none⟩)) = W3 at *
    have HBR := Lib.hid (branch_any [] (updT (updT noT x.toNat (.leaf y w0)) a.toNat (.leaf r v)) _ W3 (HK.out.keep hb4) HT3.out)
    go_wp2_with (first
     | (refine wpList_rowLoad row16p rfl (.tmp 9) rfl rfl (pk_len (updP (updP noP x.toNat (some b4)) a.toNat (some b8))) B4 ?_)
     | fail)
    refine HBR.out.mono ?_
    rintro e w9 ⟨b9, rfl, hb9, hK9⟩
    go_wp2_with fail
    go_ret
    exact ⟨b9, rfl, hb4.trans (hb9.mono hb4.size), hK9⟩
 | ext p t1 =>
  simp only [kindT, pathT, valT] at c0 c1 c2 hop hkd
  have hcp : c < p.length := by omega
  have hpl := hop.1
  have hfd := (fit_split p c hop.2.1).2
  have hci : (c : Int) ≤ (p.length : Int) := by omega
  have hst : List.take (p.length - c) (p.drop c) = p.drop c := List.take_of_length_le (by simp)
  have hdl : (p.drop c).length = p.length - c := List.length_drop
  have hk0 := hps 0 (by omega)
  rw [show kidsOf (.ext p t1) 0 = t1 from by simp [kidsOf, updT]] at hk0
  have ht1 : t1 ≠ .nil := ho.2.2.1.1
  have hp1 : (pathT t1).length ≤ n - p.length := (okT_path t1 _ ho.2.2.2).1
  obtain ⟨b1, e1⟩ := hk0.isKnot ht1
  rw [e1] at hk0 c6
  rw [ptV_some] at c6
  clear hkd hop hne hps hT hk ht1 ho e1 c2
  cases hd : p.drop c with
  | nil => rw [hd] at hdl; simp at hdl; omega
  | cons x y =>
   rw [hd] at hst hfd hdl
   have HG : Hid (partedT (.ext p t1) c q v = partT [] (updT noT x.toNat (joinT y t1)) q v) := Lib.hid (by simp [partedT, hd, oldK])
   rw [HG.out]
   have hx : x.toNat < 16 := ((fit_cons x y).1 hfd).1
   have hyl : y.length ≤ 900 := by simp at hdl; omega
   have HLX := Lib.hid (fun W (h : KT W) (hK : KAt W t1 (some b1)) => joined_any y t1 b1 W h hK (by simp at hdl; omega))
   have HK0 := Lib.hid hk0
   have i0 : 0 ≤ (x.toNat : Int) ∧ (x.toNat : Int) < 16 := by omega
   have i3 : (1 : Int) ≤ (y.length : Int) + 1 := by omega
   clear hfd hdl hk0 hp1
   go_enter Tryz.func67, Tryz.ntmps67
   go_wp2_with (first
    | (refine wpList_allocP rfl rfl ?_
       intro m w1 hm B1 hb1
       replace c0 := keepC hb1 c0
       replace c1 := keepC hb1 c1
       replace c6 := keepC hb1 c6)
    | fail)
   have HC6 := Lib.hid c6
   have hbl : b < m := by have := HBL.out; omega
   obtain ⟨W, hW⟩ := Below.name hb1
   subst hW
   have HB1 := Lib.hid B1
   have HW1 := Lib.hid hb1
   clear B1 hb1 c0 c1 c6 hd hst hci
   refine wpH_startM [m] (by kernel_rfl) (fun hS => ?_)
   (refine hP 0 ?_ ⟨some 19, .move (.tmp 11), 9, "", #[], none⟩ hS ?_ ?_; rotate_left; focus (intro w; go_simp; try with_reducible rfl))
   try simp only [pna, pnb, pnc, pnd, pne]
   (refine hP 1 ?_ ⟨some 20, .index 9 (.tmp 19) (.const (.int .i64 0)), 5, "", #[], none⟩ hS ?_ ?_; rotate_left; focus (intro w; go_simp; try with_reducible rfl))
   try simp only [pna, pnb, pnc, pnd, pne]
   (refine hP 2 ?_ ⟨some 21, .move (.tmp 11), 9, "", #[], none⟩ hS ?_ ?_; rotate_left; focus (intro w; go_simp; try with_reducible rfl))
   try simp only [pna, pnb, pnc, pnd, pne]
   (refine hP 3 ?_ ⟨some 22, .slice 9 (.tmp 21) (some (.const (.int .i64 1))) none none, 9, "", #[], none⟩ hS ?_ ?_; rotate_left; focus (intro w; go_simp; try with_reducible rfl))
   try simp only [pna, pnb, pnc, pnd, pne]
   (refine hP 4 ?_ ⟨some 23, .move (.tmp 0), 66, "", #[], none⟩ hS ?_ ?_; rotate_left; focus (intro w; go_simp; try with_reducible rfl))
   try simp only [pna, pnb, pnc, pnd, pne]
   (refine hP 5 ?_ ⟨some 24, .nilCheck (.tmp 23), 0, "", #[], none⟩ hS ?_ ?_; rotate_left; focus (intro w; go_simp; try with_reducible rfl))
   try simp only [pna, pnb, pnc, pnd, pne]
   (refine hP 6 ?_ ⟨some 25, .fieldAddr 79 (.tmp 24) 1, 0, "", #[], none⟩ hS ?_ ?_; rotate_left; focus (intro w; go_simp; try with_reducible rfl))
   try simp only [pna, pnb, pnc, pnd, pne]
   (refine hP 7 ?_ ⟨some 26, .indexAddr 77 (.tmp 25) (.const (.int .i64 0)), 0, "", #[], none⟩ hS ?_ ?_; rotate_left; focus (intro w; go_simp; try with_reducible rfl))
   try simp only [pna, pnb, pnc, pnd, pne]
   refine wpH_load 8 (.pointer (some ⟨b1, 0, none⟩)) (oi := { dst := some 27, op := Op.load 66 (Operand.tmp 26), type := 66, pos := "knot.go:110", after := #[{ on := 7, ground := Ground.data }], guard := none }) rfl (by kernel_rfl) (by kernel_rfl) (by kernel_rfl) (by rfl) hS (fun _ _ _ h => h) (fun w hb => (by have c := hb.keepC (by simp; omega) HC6.out; go_simp; try rfl)) ?_
   try simp only [pna, pnb, pnc, pnd, pne]
   refine wpH_call 9 (oi := { dst := some 28, op := Op.call { callee := Callee.value (Operand.func 63), args := #[Operand.tmp 22, Operand.tmp 27], argTypes := #[9, 66] }, type := 66, pos := "knot.go:110", after := #[{ on := 3, ground := Ground.data }, { on := 8, ground := Ground.data }], guard := none }) rfl (by kernel_rfl) (by rfl) (HLX.out _ ((HK.out.keep HW1.out).keep (Below.refl _ _).drew) ((HK0.out.keep HW1.out).keep (Below.refl _ _).drew)) ?_ ?_
   ·(go_simp; try rfl)
   rintro e w' ⟨b4, rfl, hbx, hK4⟩
   refine ⟨_, rfl, hS.trans (Mod.of_below hbx), ?_⟩
   replace hS := hS.trans (Mod.of_below hbx)
   try simp only [pna, pnb, pnc, pnd, pne]
   (refine hP 10 ?_ ⟨some 29, .indexAddr 77 (.tmp 9) (.tmp 20), 0, "", #[], none⟩ hS ?_ ?_; rotate_left; focus (intro w; go_simp; try with_reducible rfl))
   try simp only [pna, pnb, pnc, pnd, pne]
   refine wpH_op 11 (oi := { dst := none, op := Op.store 66 (Operand.tmp 29) (Operand.tmp 28), type := 0, pos := "knot.go:110", after := #[{ on := 10, ground := Ground.data }, { on := 9, ground := Ground.data }, { on := 9, ground := Ground.chain }, { on := 0, ground := Ground.phase }, { on := 1, ground := Ground.phase }, { on := 2, ground := Ground.phase }, { on := 3, ground := Ground.phase }, { on := 4, ground := Ground.phase }, { on := 5, ground := Ground.phase }, { on := 6, ground := Ground.phase }, { on := 7, ground := Ground.phase }, { on := 8, ground := Ground.phase }, { on := 9, ground := Ground.phase }], guard := none }) rfl (by kernel_rfl) (by rfl) ?_
   refine wp_storeP (.tmp 29) (.tmp 28) rfl m x.toNat rfl (some ⟨b4, 0, none⟩) rfl _ (pk_cell (HB1.out.drew.keep hbx) x.toNat hx) ((HB1.out.drew.keep hbx).froz _) ?_
   refine ⟨hS.setCell (.inl (by simp)) _, ?_⟩
   try simp only [pna, pnb, pnc, pnd, pne]
   refine wpAnyH_done (by kernel_rfl) ?_ _
   have B3 := HB1.out.drew.keep hbx
   have HT := Lib.hid (kat_upd (kat_no _) x.toNat (hK4.other B3 x.toNat (.pointer (some ⟨b4, 0, none⟩))))
   have BT := B3.set x.toNat (ptV (some b4))
   rw [pk_set _ _ _ hx, ptV_some] at BT
   have hbT : Below w.heap.size w _ := ((HW1.out.drew).trans (hbx.mono HW1.out.size)).setCell (p := ⟨m, x.toNat, none⟩) hm (.pointer (some ⟨b4, 0, none⟩))
   clear hbx hK4 hS B3
   generalize World.setCell _ ⟨m, x.toNat, none⟩ (.pointer (some ⟨b4, 0, none⟩)) = W2 at *
   cases q with
   | nil =>
    rw [show partT [] (updT noT x.toNat (joinT y t1)) [] v = .br v (updT noT x.toNat (joinT y t1)) from rfl]
    have HBR := Lib.hid (branch_any v (updT noT x.toNat (joinT y t1)) (updP noP x.toNat (some b4)) _ (HK.out.keep hbT) HT.out)
    go_wp2_with (first
     | (refine wpList_rowLoad row16p rfl (.tmp 9) rfl rfl (pk_len (updP noP x.toNat (some b4))) BT ?_)
     | fail)
    refine HBR.out.mono ?_
    rintro e w9 ⟨b9, rfl, hb9, hK9⟩
    go_wp2_with fail
    go_ret
    exact ⟨b9, rfl, hbT.trans (hb9.mono hbT.size), hK9⟩
   | cons a r =>
    rw [show partT [] (updT noT x.toNat (joinT y t1)) (a :: r) v = .br [] (updT (updT noT x.toNat (joinT y t1)) a.toNat (.leaf r v)) from rfl]
    have ha : a.toNat < 16 := ((fit_cons a r).1 hfq).1
    have HLF := Lib.hid (fun W (h : KT W) => leaf_any r v (by simp at hq; omega) W h)
    have i1 : 0 ≤ (a.toNat : Int) ∧ (a.toNat : Int) < 16 := by omega
    have i2 : (1 : Int) ≤ (r.length : Int) + 1 := by omega
    have HBT := Lib.hid BT
    have HbT := Lib.hid hbT
    clear BT hbT hfq
    go_wp2_with fail
    refine wpH_startM [m] (by kernel_rfl) (fun hS => ?_)
    (refine hP 0 ?_ ⟨some 59, .move (.tmp 2), 9, "", #[], none⟩ hS ?_ ?_; rotate_left; focus (intro w; go_simp; try with_reducible rfl))
    try simp only [pna, pnb, pnc, pnd, pne]
    (refine hP 1 ?_ ⟨some 60, .index 9 (.tmp 59) (.const (.int .i64 0)), 5, "", #[], none⟩ hS ?_ ?_; rotate_left; focus (intro w; go_simp; try with_reducible rfl))
    try simp only [pna, pnb, pnc, pnd, pne]
    (refine hP 2 ?_ ⟨some 61, .move (.tmp 2), 9, "", #[], none⟩ hS ?_ ?_; rotate_left; focus (intro w; go_simp; try with_reducible rfl))
    try simp only [pna, pnb, pnc, pnd, pne]
    (refine hP 3 ?_ ⟨some 62, .slice 9 (.tmp 61) (some (.const (.int .i64 1))) none none, 9, "", #[], none⟩ hS ?_ ?_; rotate_left; focus (intro w; go_simp; try with_reducible rfl))
    try simp only [pna, pnb, pnc, pnd, pne]
    (refine hP 4 ?_ ⟨some 63, .move (.tmp 3), 9, "", #[], none⟩ hS ?_ ?_; rotate_left; focus (intro w; go_simp; try with_reducible rfl))
    try simp only [pna, pnb, pnc, pnd, pne]
    refine wpH_call 5 (oi := { dst := some 64, op := Op.call { callee := Callee.value (Operand.func 64), args := #[Operand.tmp 62, Operand.tmp 63], argTypes := #[9, 9] }, type := 66, pos := "knot.go:115", after := #[{ on := 3, ground := Ground.data }, { on := 4, ground := Ground.data }], guard := none }) rfl (by kernel_rfl) (by rfl) (HLF.out _ ((HK.out.keep HbT.out).keep (Below.refl _ _).drew)) ?_ ?_
    ·(go_simp; try rfl)
    rintro e w' ⟨b8, rfl, hbx, hK8⟩
    refine ⟨_, rfl, hS.trans (Mod.of_below hbx), ?_⟩
    replace hS := hS.trans (Mod.of_below hbx)
    try simp only [pna, pnb, pnc, pnd, pne]
    (refine hP 6 ?_ ⟨some 65, .indexAddr 77 (.tmp 9) (.tmp 60), 0, "", #[], none⟩ hS ?_ ?_; rotate_left; focus (intro w; go_simp; try with_reducible rfl))
    try simp only [pna, pnb, pnc, pnd, pne]
    refine wpH_op 7 (oi := { dst := none, op := Op.store 66 (Operand.tmp 65) (Operand.tmp 64), type := 0, pos := "knot.go:115", after := #[{ on := 6, ground := Ground.data }, { on := 5, ground := Ground.data }, { on := 5, ground := Ground.chain }, { on := 0, ground := Ground.phase }, { on := 1, ground := Ground.phase }, { on := 2, ground := Ground.phase }, { on := 3, ground := Ground.phase }, { on := 4, ground := Ground.phase }, { on := 5, ground := Ground.phase }], guard := none }) rfl (by kernel_rfl) (by rfl) ?_
    refine wp_storeP (.tmp 65) (.tmp 64) rfl m a.toNat rfl (some ⟨b8, 0, none⟩) rfl _ (pk_cell (HBT.out.drew.keep hbx) a.toNat ha) ((HBT.out.drew.keep hbx).froz _) ?_
    refine ⟨hS.setCell (.inl (by simp)) _, ?_⟩
    try simp only [pna, pnb, pnc, pnd, pne]
    refine wpAnyH_done (by kernel_rfl) ?_ _
    have B3 := HBT.out.drew.keep hbx
    have HT3 := Lib.hid (kat_upd (kat_other B3 a.toNat (.pointer (some ⟨b8, 0, none⟩)) (kat_keep hbx (kat_keep (Below.refl _ _).drew HT.out))) a.toNat (hK8.other B3 a.toNat (.pointer (some ⟨b8, 0, none⟩))))
    have B4 := B3.set a.toNat (ptV (some b8))
    rw [pk_set _ _ _ ha, ptV_some] at B4
    have hb4 : Below w.heap.size w _ := ((HbT.out.drew).trans (hbx.mono HbT.out.size)).setCell (p := ⟨m, a.toNat, none⟩) hm (.pointer (some ⟨b8, 0, none⟩))
    clear hbx hK8 hS B3
    generalize World.setCell _ ⟨m, a.toNat, none⟩ (.pointer (some ⟨b8, 0, none⟩)) = W3 at *
    have HBR := Lib.hid (branch_any [] (updT (updT noT x.toNat (joinT y t1)) a.toNat (.leaf r v)) _ W3 (HK.out.keep hb4) HT3.out)
    go_wp2_with (first
     | (refine wpList_rowLoad row16p rfl (.tmp 9) rfl rfl (pk_len (updP (updP noP x.toNat (some b4)) a.toNat (some b8))) B4 ?_)
     | fail)
    refine HBR.out.mono ?_
    rintro e w9 ⟨b9, rfl, hb9, hK9⟩
    go_wp2_with fail
    go_ret
    exact ⟨b9, rfl, hb4.trans (hb9.mono hb4.size), hK9⟩
end Go.Proofs.YtjppbomngnomhaaGreatDoor
