/- TrieW, NibC, Get, Held. -/
import Derived.Test.YtdaihimdkgmboaaDoorRows
import Derived.Test.YtdaihimdkgmboaaDoorMg2
import Derived.Test.YtdaihimdkgmboaaDoorMg4
import Derived.Test.YtdaihimdkgmboaaDoorMg7
set_option linter.unnecessarySimpa false

/- Walks of layer 10: leaves, branches, what is joined. -/
set_option linter.unusedSimpArgs false
set_option linter.unusedVariables false
namespace Go.Proofs.YtdaihimdkgmboaaDoor
open Go.RowKit Pl

theorem wp_load1 {P : Program} {o : Oper} {a : Act} {w : World} {K : Act → World → Prop} {Q : Exit → Act → World → Prop} (T : TypeId) (x : Operand) (ho : o.op = .load T x) (ad : Addr) (hx : a.eval x = .pointer (some ad)) (v : Value)
    (hr : (loadVar T ad).run P w = .ok v w) (h : K (a.put o.dst v) w) : o.wp P a w K Q := by
  unfold Oper.wp execOp
  simp only [ho, hx, Instr.loadAt, Instr.sureAddr, Sem.run_bind, Sem.run_pure, Result.andThen_ok, hr]
  exact h

/-- A trie's knot is told. -/
def KOut (B : Nat) (w : World) (t : Tr) (e : Ending) (w' : World) : Prop := ∃ b, e = .returned (.pointer (some ⟨b, 0, none⟩)) ∧ Below B w w' ∧ KAt w' t (some b)
theorem tied_kat (t : Tr) (ht : t ≠ .nil) (hp : (pathT t).length ≤ 1000) (ps : Ps) (w : World) (hk : KT w) (hT : ∀ i, i < 16 → KAt w (kidsOf t i) (ps i)) :
    Calls Tryd.prog 118 #[.agg (nd (kindT t) (pathT t) (valT t) noK).toArray, .agg (pk ps).toArray] w (KOut w.heap.size w t) := by
  refine (tied_any (kindT t) (pathT t) (valT t) hp (kidsOf t) ps w hk hT).mono ?_
  rintro e w' ⟨b, rfl, hb, hB⟩
  refine ⟨b, rfl, hb, .knot t b ps ht (fun i hi => (hT i hi).keep hb) ?_⟩
  rw [sumT_knot t ht, rp_len t ht]
  exact hB
theorem pk_no : (pk noP).toArray = #[.pointer none, .pointer none, .pointer none, .pointer none, .pointer none, .pointer none, .pointer none, .pointer none, .pointer none, .pointer none, .pointer none, .pointer none, .pointer none, .pointer none, .pointer none, .pointer none] := rfl

set_option maxRecDepth 100000 in
set_option maxHeartbeats 1000000 in
theorem leaf_any (path val : Bs) (hp : path.length ≤ 1000) (w : World) (hk : KT w) :
    Calls Tryd.prog 91 #[.string ⟨List.toArray (path)⟩, .string ⟨List.toArray (val)⟩] w (KOut w.heap.size w (.leaf path val)) := by
  have ht : Calls Tryd.prog 118 #[.agg (nd 1 path val noK).toArray, .agg (pk noP).toArray] w (KOut w.heap.size w (.leaf path val)) := tied_kat (.leaf path val) (by simp) hp noP w hk (kat_no w)
  go_enter Tryd.func91, Tryd.ntmps91
  go_wp2_with (first
    | (refine wpList_bTo rfl 76 _ rfl (nd 1 path val noK).toArray (by kernel_rfl) ?_)
    | (refine wpList_bTo rfl 77 _ rfl (pk noP).toArray (by kernel_rfl) ?_)
    | fail)
  refine ht.mono ?_
  rintro e w1 ⟨b, rfl, hb, hK⟩
  clear ht
  go_wp2_with fail
  go_ret
  exact ⟨b, rfl, hb, hK⟩

set_option maxRecDepth 100000 in
set_option maxHeartbeats 1000000 in
theorem branch_any (val : Bs) (kids : Nat → Tr) (ps : Ps) (w : World) (hk : KT w) (hT : ∀ i, i < 16 → KAt w (kids i) (ps i)) :
    Calls Tryd.prog 92 #[.string ⟨List.toArray (val)⟩, .agg (pk ps).toArray] w (KOut w.heap.size w (.br val kids)) := by
  have hB := Blk.new w (pk ps).toArray 77
  have hb0 : Below w.heap.size w (w.alloc (.cells (pk ps).toArray 77)) := Below.allocS (Below.refl _ _) _
  have ht : Calls Tryd.prog 118 #[.agg (nd 3 ([]) val noK).toArray, .agg (pk ps).toArray] (w.alloc (.cells (pk ps).toArray 77)) (KOut (w.alloc (.cells (pk ps).toArray 77)).heap.size (w.alloc (.cells (pk ps).toArray 77)) (.br val kids)) :=
    tied_kat (.br val kids) (by simp) (by simp [pathT]) ps _ (hk.keep hb0) (fun i hi => (hT i hi).keep hb0)
  go_enter Tryd.func92, Tryd.ntmps92
  go_wp2_with (first
    | (refine wpList_bTo rfl 76 _ rfl (nd 3 [] val noK).toArray (by kernel_rfl) ?_)
    | (refine wpList_rowLoad row16p rfl (.tmp 3) rfl rfl (pk_len ps) hB ?_)
    | fail)
  refine ht.mono ?_
  rintro e w1 ⟨b, rfl, hb, hK⟩
  clear ht
  go_wp2_with fail
  go_ret
  exact ⟨b, rfl, hb0.trans (hb.mono hb0.size), hK⟩

/-- The cells that say what a knot is. -/
theorem KAt.open {w : World} {t : Tr} {b : Nat} (h : KAt w t (some b)) : t ≠ .nil ∧ ∃ ps : Ps, (∀ i, i < 16 → KAt w (kidsOf t i) (ps i)) ∧ KnC w b (kindT t) (pathT t) (valT t) ps (textT t) (sumT t) (w64 (rp t).length) ∧
    Blk w b (kn (kindT t) (pathT t) (valT t) (kidF fun i => sumT (kidsOf t i)) ps (textT t) (sumT t) (w64 (rp t).length)).toArray := by
  obtain ⟨h1, ps, h2, h3⟩ := h.some'
  exact ⟨h1, ps, h2, h3.kn, h3⟩
theorem KnC.keep {W w : World} (hb : Below W.heap.size W w) {b : Nat} {kind : Int} {path val : Bs} {ps : Ps} {t s : Bs} {m : Int} (h : KnC W b kind path val ps t s m) : KnC w b kind path val ps t s m :=
  ⟨keepC hb h.kind, keepC hb h.path, keepC hb h.val, keepC hb h.text, keepC hb h.sum, keepC hb h.many, keepC hb h.first⟩

set_option maxRecDepth 100000 in
set_option maxHeartbeats 2000000 in
theorem joined_any (path : Bs) (t : Tr) (b : Nat) (w : World) (hk : KT w) (hT : KAt w t (some b)) (hl : path.length + (pathT t).length ≤ 1000) :
    Calls Tryd.prog 93 #[.string ⟨List.toArray (path)⟩, .pointer (some ⟨b, 0, none⟩)] w (KOut w.heap.size w (joinT path t)) := by
  by_cases hp : path = []
  · subst hp
    rw [joinT_nil]
    go_enter Tryd.func93, Tryd.ntmps93
    go_wp2_with fail
    go_ret
    exact ⟨b, rfl, Below.refl _ _, hT⟩
  · have hp1 : (path == []) = false := by simpa using hp
    have hp2 : path.isEmpty = false := by simpa using hp
    obtain ⟨hn, ps, hps, hc, hB⟩ := hT.open
    cases t with
    | nil => exact absurd rfl hn
    | leaf q v =>
      have hq : joinT path (.leaf q v) = .leaf (path ++ q) v := by simp [joinT, hp]
      rw [hq]
      obtain ⟨c0, c1, c2, _, _, _, _⟩ := hc
      simp only [kindT, pathT, valT] at c0 c1 c2 hl
      clear hB hps hT hn hq hp
      have ht : ∀ W, Below w.heap.size w W → Calls Tryd.prog 91 #[.string ⟨List.toArray (path ++ q)⟩, .string ⟨List.toArray (v)⟩] W (KOut W.heap.size W (.leaf (path ++ q) v)) := fun W hb => leaf_any (path ++ q) v (by simp; omega) W (hk.keep hb)
      have HL := Lib.hid ht
      clear ht
      go_enter Tryd.func93, Tryd.ntmps93
      go_wp2_with fail
      refine wp_tail 12 (by kernel_rfl) (by kernel_rfl) ?_
      intro w2 hw2
      have hb2 : Below w.heap.size w w2 := by rw [hw2]; exact (Below.refl _ _).drew
      clear hw2
      replace c1 := keepC hb2 c1
      replace c2 := keepC hb2 c2
      simp only [List.take_succ_cons, List.take_zero, List.drop_succ_cons, List.drop_zero]
      have hnl : ¬ 9223372036854775807 < List.length path + List.length q := by omega
      repeat still_step
      refine wpStill_nil ?_
      go_wp2_with fail
      refine (HL.out w2 hb2).mono ?_
      rintro e w3 ⟨b3, rfl, hb3, hK3⟩
      go_wp2_with fail
      go_ret
      exact ⟨b3, rfl, hb2.trans (hb3.mono hb2.size), hK3⟩
    | ext q t =>
      have hq : joinT path (.ext q t) = .ext (path ++ q) t := by simp [joinT, hp]
      rw [hq]
      obtain ⟨c0, c1, c2, _, _, _, c6⟩ := hc
      simp only [kindT, pathT, valT] at c0 c1 c2 hl
      have hk0 := hps 0 (by omega)
      clear hB hps hT hn hq hp
      have e0 : kidsOf (.ext q t) 0 = t := by simp [kidsOf, updT]
      rw [e0] at hk0
      clear e0
      obtain ⟨p0, hp0⟩ : ∃ p, p = ps 0 := ⟨_, rfl⟩
      rw [← hp0] at hk0 c6
      have ht : ∀ W, Below w.heap.size w W → Calls Tryd.prog 118 #[.agg (nd 2 (path ++ q) ([]) noK).toArray, .agg (pk (updP noP 0 p0)).toArray] W (KOut W.heap.size W (.ext (path ++ q) t)) := fun W hb =>
        tied_kat (.ext (path ++ q) t) (by simp) (by simp [pathT]; omega) _ W (hk.keep hb) (kat_upd (kat_no W) 0 (hk0.keep hb))
      have HL := Lib.hid ht
      clear ht hk0 hp0
      rcases p0 with _ | p0
      · go_enter Tryd.func93, Tryd.ntmps93
        go_wp2_with fail
        go_quiet (fail)
        go_wp2_with (first
          | (refine wpList_bTo rfl 76 _ rfl (nd 2 (path ++ q) [] noK).toArray (by kernel_rfl) ?_)
          | (refine wpList_bTo rfl 77 _ rfl (pk (updP noP 0 none)).toArray (by kernel_rfl) ?_)
          | fail)
        refine (HL.out _ (below_drewN (Below.refl _ _) _)).mono ?_
        rintro e w3 ⟨b3, rfl, hb3, hK3⟩
        go_wp2_with fail
        go_ret
        exact ⟨b3, rfl, (below_drewN (Below.refl _ _) _).trans hb3, hK3⟩
      · go_enter Tryd.func93, Tryd.ntmps93
        go_wp2_with fail
        go_quiet (fail)
        go_wp2_with (first
          | (refine wpList_bTo rfl 76 _ rfl (nd 2 (path ++ q) [] noK).toArray (by kernel_rfl) ?_)
          | (refine wpList_bTo rfl 77 _ rfl (pk (updP noP 0 (some p0))).toArray (by kernel_rfl) ?_)
          | fail)
        refine (HL.out _ (below_drewN (Below.refl _ _) _)).mono ?_
        rintro e w3 ⟨b3, rfl, hb3, hK3⟩
        go_wp2_with fail
        go_ret
        exact ⟨b3, rfl, (below_drewN (Below.refl _ _) _).trans hb3, hK3⟩
    | br v kids =>
      have hq : joinT path (.br v kids) = .ext path (.br v kids) := by simp [joinT, hp]
      rw [hq]
      obtain ⟨c0, c1, c2, _, _, _, _⟩ := hc
      simp only [kindT, pathT, valT] at c0 c1 c2 hl
      have ht : ∀ W, Below w.heap.size w W → Calls Tryd.prog 118 #[.agg (nd 2 path ([]) noK).toArray, .agg (pk (updP noP 0 (some b))).toArray] W (KOut W.heap.size W (.ext path (.br v kids))) := fun W hb =>
        tied_kat (.ext path (.br v kids)) (by simp) (by simp [pathT]; omega) _ W (hk.keep hb) (kat_upd (kat_no W) 0 (hT.keep hb))
      have HL := Lib.hid ht
      clear ht hB hps hT hn hq hp
      go_enter Tryd.func93, Tryd.ntmps93
      go_wp2_with (first
        | (refine wpList_bTo rfl 76 _ rfl (nd 2 path [] noK).toArray (by kernel_rfl) ?_)
        | (refine wpList_bTo rfl 77 _ rfl (pk (updP noP 0 (some b))).toArray (by kernel_rfl) ?_)
        | fail)
      refine (HL.out _ (Below.refl _ _)).mono ?_
      rintro e w3 ⟨b3, rfl, hb3, hK3⟩
      go_wp2_with fail
      go_ret
      exact ⟨b3, rfl, hb3, hK3⟩
end Go.Proofs.YtdaihimdkgmboaaDoor

/- Walks of layer 1: how far two paths are the same; the key of a path. -/
set_option linter.unusedSimpArgs false
set_option linter.unusedVariables false
namespace Go.Proofs.YtdaihimdkgmboaaDoor
open Go.RowKit Pl

namespace Pl
theorem common_eq : ∀ (k : Nat) (a b : Bs), a.take k = b.take k → k ≤ a.length → k ≤ b.length → (∀ (h1 : k < a.length) (h2 : k < b.length), a[k] ≠ b[k]) → common a b = k
  | 0, [], b, _, _, _, _ => by simp [common]
  | 0, x :: r, [], _, _, _, _ => by simp [common]
  | 0, x :: r, y :: s, _, _, _, h => by
    have := h (by simp) (by simp)
    simp at this
    simp [common, this]
  | k + 1, [], b, _, h, _, _ => by simp at h
  | k + 1, x :: r, [], _, _, h, _ => by simp at h
  | k + 1, x :: r, y :: s, h1, h2, h3, h4 => by
    simp at h1 h2 h3
    obtain ⟨rfl, h1⟩ := h1
    have := common_eq k r s h1 h2 h3 (fun a b => by
      have := h4 (by simp; omega) (by simp; omega)
      simpa using this)
    simp [common, this]
end Pl

set_option maxRecDepth 100000 in
set_option maxHeartbeats 1000000 in
theorem ncommon_any (a b : Bs) (ha : a.length ≤ 9223372036854775806) (hb : b.length ≤ 9223372036854775806) (w : World) :
    Calls Tryd.prog 90 #[.string ⟨List.toArray (a)⟩, .string ⟨List.toArray (b)⟩] w fun e w' => e = .returned (.int .i64 ((common a b : Nat))) ∧ ∃ n, w' = w.drewN n := by
  generalize hc : common a b = c
  have HC := Lib.hid hc
  clear hc
  go_enter Tryd.func90, Tryd.ntmps90
  go_wp2_with fail
  go_loopw [5] (fun s5 wr => ∃ k : Nat, s5 = .int .i64 (k) ∧ k ≤ a.length ∧ k ≤ b.length ∧ Hid (a.take k = b.take k) ∧ ∃ n, wr = w.drewN n) (fun s5 _ => a.length - (intOf s5).toNat)
  case atStart => exact ⟨0, rfl, by omega, by omega, Lib.hid (by simp), 0, rfl⟩
  case round =>
    obtain ⟨k, rfl, hka, hkb, HT, nq, rfl⟩ := hrel
    by_cases h1 : k < a.length
    · have d1 : decide ((k : Int) < (a.length : Int)) = true := by simp; omega
      by_cases h2 : k < b.length
      · have d2 : decide ((k : Int) < (b.length : Int)) = true := by simp; omega
        have i1 : (k : Int) < (a.length : Int) := by omega
        have i2 : (k : Int) < (b.length : Int) := by omega
        have hx := a[k].toNat_lt
        have hy := b[k].toNat_lt
        have HS : Hid (a.take (k + 1) = b.take (k + 1) ↔ a[k] = b[k]) := Lib.hid (by
          rw [List.take_succ_eq_append_getElem h1, List.take_succ_eq_append_getElem h2, HT.out, List.append_cancel_left_eq]
          simp)
        by_cases h3 : a[k] = b[k]
        · have HT2 := Lib.hid (HS.out.2 h3)
          have e3 : ((a[k].toNat : Int) == (b[k].toNat : Int)) = true := by rw [h3]; simp
          clear h3 HS
          go_wp2_with fail
          go_quiet (fail)
          go_wp2_with fail
          exact ⟨⟨k + 1, by go_num, by omega, by omega, HT2, _, rfl⟩, by simp [intOf]; omega⟩
        · have e3 : ((a[k].toNat : Int) == (b[k].toNat : Int)) = false := by
            rw [beq_eq_false_iff_ne]
            intro e
            exact h3 (UInt8.toNat_inj.1 (by omega))
          have HZ : Hid (c = k) := Lib.hid (by rw [← HC.out]; exact common_eq k a b HT.out hka hkb (fun _ _ => h3))
          clear h3 HS
          go_wp2_with fail
          go_quiet (fail)
          go_wp2_with fail
          go_ret
          exact ⟨by rw [HZ.out]; rfl, _, World.drewN_drewN _ _ _⟩
      · have d2 : decide ((k : Int) < (b.length : Int)) = false := by simp; omega
        have HZ : Hid (c = k) := Lib.hid (by rw [← HC.out]; exact common_eq k a b HT.out hka hkb (fun _ h => absurd h h2))
        go_wp2_with fail
        go_quiet (fail)
        go_wp2_with fail
        go_ret
        exact ⟨by rw [HZ.out]; rfl, _, World.drewN_drewN _ _ _⟩
    · have d1 : decide ((k : Int) < (a.length : Int)) = false := by simp; omega
      have HZ : Hid (c = k) := Lib.hid (by rw [← HC.out]; exact common_eq k a b HT.out hka hkb (fun h => absurd h h1))
      go_wp2_with fail
      go_quiet (fail)
      go_wp2_with fail
      go_ret
      exact ⟨by rw [HZ.out]; rfl, _, World.drewN_drewN _ _ _⟩

/-- A key, and some code. -/
def KeyAt (k : Bs) (B : Nat) (w : World) (e : Ending) (w' : World) : Prop := ∃ c : Int, e = .returned (.tuple #[.string ⟨List.toArray (k)⟩, .int .i64 (c)]) ∧ Below B w w'
set_option maxRecDepth 100000 in
set_option maxHeartbeats 1000000 in
theorem nkey_any (p : Bs) (hs : p.length ≤ 35184372088832) (w : World) :
    Calls Tryd.prog 35 #[.string ⟨List.toArray (p)⟩] w (KeyAt (keyP p) w.heap.size w) := by
  generalize hk : keyP p = kk
  have HK := Lib.hid hk
  clear hk
  have hft := nfit_any p (by omega) w
  cases hf : fit p
  · have HZ : Hid (kk = []) := Lib.hid (by rw [← HK.out]; simp [keyP, hf])
    rw [hf] at hft
    clear hf
    go_enter Tryd.func35, Tryd.ntmps35
    go_wp2_with fail
    refine hft.mono ?_
    rintro e w1 ⟨rfl, rfl⟩
    clear hft
    go_wp2_with fail
    go_ret2
    exact ⟨_, by rw [HZ.out]; rfl, Below.refl _ _⟩
  · rw [hf] at hft
    by_cases he : p.length % 2 = 0
    · have hj := njoined_any p hf hs
      have HZ : Hid (kk = joined p) := Lib.hid (by rw [← HK.out]; simp [keyP, hf, he])
      have e2 : (((p.length : Int) % 2) == 1) = false := by rw [beq_eq_false_iff_ne]; omega
      clear hf he
      go_enter Tryd.func35, Tryd.ntmps35
      go_wp2_with fail
      refine hft.mono ?_
      rintro e w1 ⟨rfl, rfl⟩
      clear hft
      go_wp2_with fail
      refine (hj _).mono ?_
      rintro e w2 ⟨rfl, hb⟩
      go_wp2_with fail
      go_ret2
      exact ⟨_, by rw [HZ.out]; rfl, hb⟩
    · have HZ : Hid (kk = []) := Lib.hid (by rw [← HK.out]; simp [keyP, he])
      have e2 : (((p.length : Int) % 2) == 1) = true := by rw [beq_iff_eq]; omega
      clear hf he
      go_enter Tryd.func35, Tryd.ntmps35
      go_wp2_with fail
      refine hft.mono ?_
      rintro e w1 ⟨rfl, rfl⟩
      clear hft
      go_wp2_with fail
      go_ret2
      exact ⟨_, by rw [HZ.out]; rfl, Below.refl _ _⟩
end Go.Proofs.YtdaihimdkgmboaaDoor

/- Walks of layer 10: what is at a path. -/
set_option linter.unusedSimpArgs false
set_option linter.unusedVariables false
namespace Go.Proofs.YtdaihimdkgmboaaDoor
open Go.RowKit Pl

theorem common_all (p q : Bs) : common p q = p.length ↔ q.take p.length = p := by
  constructor
  · intro h
    have := common_take p q
    rw [h, List.take_length] at this
    exact this.symm
  · intro h
    have hl : p.length ≤ q.length := by
      have := congrArg List.length h
      simp at this; omega
    exact common_eq p.length p q (by rw [List.take_length, h]) (Nat.le_refl _) hl (fun h1 => absurd h1 (Nat.lt_irrefl _))
theorem look_miss (t : Tr) (q : Bs) (h : common (pathT t) q ≠ (pathT t).length) : Pl.look t q = [] := by
  rw [Ne, common_all] at h
  cases t with
  | nil => rfl
  | leaf p v =>
    simp only [pathT] at h
    simp only [Pl.look]
    rw [if_neg]
    intro e
    subst e
    simp at h
  | ext p t =>
    simp only [pathT] at h
    simp only [Pl.look]
    rw [if_neg h]
  | br v kids => simp [pathT] at h
theorem look_ext (t : Tr) (q : Bs) (hk : kindT t = 2) (h : common (pathT t) q = (pathT t).length) : Pl.look t q = Pl.look (kidsOf t 0) (q.drop (pathT t).length) := by
  rw [common_all] at h
  cases t with
  | ext p t =>
    simp only [pathT] at h
    simp only [Pl.look, kidsOf, updT, pathT]
    rw [if_pos h]
    simp
  | nil => simp [kindT] at hk
  | leaf p v => simp [kindT] at hk
  | br v kids => simp [kindT] at hk
theorem look_end (t : Tr) (q : Bs) (hk : kindT t ≠ 2) (h : common (pathT t) q = (pathT t).length) (hd : q.drop (pathT t).length = []) : Pl.look t q = valT t := by
  rw [common_all] at h
  cases t with
  | ext p t => simp [kindT] at hk
  | nil => rfl
  | leaf p v =>
    simp only [pathT] at h hd
    have e : q = p := by
      conv => lhs; rw [← List.take_append_drop p.length q, h, hd, List.append_nil]
    simp [Pl.look, valT, e]
  | br v kids =>
    simp only [pathT] at hd
    have e : q = [] := by simpa using hd
    simp [Pl.look, valT, e]
theorem look_on (t : Tr) (q : Bs) (a : UInt8) (r : Bs) (hk : kindT t ≠ 2) (h : common (pathT t) q = (pathT t).length) (hd : q.drop (pathT t).length = a :: r) : Pl.look t q = Pl.look (kidsOf t a.toNat) r := by
  rw [common_all] at h
  cases t with
  | ext p t => simp [kindT] at hk
  | nil => rfl
  | leaf p v =>
    simp only [pathT] at h hd
    have e : q ≠ p := by intro e; subst e; simp at hd
    simp [Pl.look, kidsOf, noT, e]
  | br v kids =>
    simp only [pathT] at hd
    have e : q = a :: r := by simpa using hd
    subst e
    rfl
theorem okT_path (t : Tr) (n : Nat) (h : okT t n) : (pathT t).length ≤ n ∧ fit (pathT t) = true ∧ (kindT t = 2 → pathT t ≠ []) := by
  cases t with
  | nil => simp [pathT, kindT, fit]
  | leaf p v => exact ⟨h.2, h.1, by simp [kindT]⟩
  | ext p t => exact ⟨h.2.1, h.1, fun _ => h.2.2.1.2⟩
  | br v kids => simp [pathT, kindT, fit]
theorem okT_kid (t : Tr) (n : Nat) (h : okT t n) (i : Nat) : okT (kidsOf t i) n := by
  cases t with
  | nil => trivial
  | leaf p v => trivial
  | ext p t =>
    simp only [kidsOf, updT]
    split
    · exact okT_mono _ _ _ (by omega) h.2.2.2
    · trivial
  | br v kids =>
    rcases h i with h | ⟨_, _, h⟩
    · show okT (kids i) n
      rw [h]; trivial
    · exact okT_mono _ _ _ (by omega) h
theorem kn_ptr {w : World} {b : Nat} {kind : Int} {path val : Bs} {f : Nat → Bs} {ps : Ps} {t s : Bs} {m : Int} (h : Blk w b (kn kind path val f ps t s m).toArray) (k : Nat) (hk : k < 16) : w.cell? ⟨b, 19 + k, none⟩ = some (ptV (ps k)) :=
  (h.cell (19 + k)).trans (pk_pre _ _ _ _ _ _ _ _ k _ (pk_at ps k hk))
theorem kind_nat (t : Tr) : 0 ≤ kindT t ∧ kindT t ≤ 3 := by cases t <;> simp [kindT]
def strL : Value → Nat
  | .string s => s.size
  | _ => 0

set_option maxRecDepth 100000 in
set_option maxHeartbeats 4000000 in
theorem get_any (t : Tr) (n : Nat) (hn : n ≤ 1000) (p : Option Nat) (q : Bs) (hq : q.length ≤ 100000) (hf : fit q = true) (ho : okT t n) (w : World) (hT : KAt w t p) :
    Calls Tryd.prog 62 #[ptV p, .string ⟨List.toArray (q)⟩] w fun e w' => e = .returned (.string ⟨List.toArray (Pl.look t q)⟩) ∧ ∃ n, w' = w.drewN n := by
  generalize hz : Pl.look t q = z
  have HZ := Lib.hid hz
  clear hz
  go_enter Tryd.func62, Tryd.ntmps62
  go_wp2_with fail
  go_loopw [0, 1] (fun s0 s1 wr => ∃ (t' : Tr) (p' : Option Nat) (q' : Bs), s0 = ptV p' ∧ s1 = .string ⟨List.toArray (q')⟩ ∧ q'.length ≤ 100000 ∧ Hid (KAt w t' p') ∧ Hid (okT t' n) ∧ Hid (fit q' = true) ∧ Hid (Pl.look t' q' = z) ∧ ∃ n, wr = w.drewN n) (fun _ s1 _ => strL s1)
  case atStart => exact ⟨t, p, q, rfl, rfl, hq, Lib.hid hT, Lib.hid ho, Lib.hid hf, HZ, 0, rfl⟩
  case round =>
    obtain ⟨t', p', q', rfl, rfl, hq', HT, HOK, HF, HL, m, rfl⟩ := hrel
    clear HZ hT ho hf
    rcases p' with _ | b
    · have HE : Hid (z = []) := Lib.hid (by rw [← HL.out, HT.out.none']; rfl)
      go_wp2_with fail
      go_ret
      exact ⟨by rw [HE.out]; rfl, m, rfl⟩
    · obtain ⟨hne, ps, hps, ⟨c0, c1, c2, _, _, _, c6⟩, hB⟩ := HT.out.open
      obtain ⟨o1, o2, o3⟩ := okT_path t' n HOK.out
      have hcl := common_le (pathT t') q'
      have hcm := fun W => ncommon_any (pathT t') q' (by omega) (by omega) W
      have HM := Lib.hid (look_miss t' q')
      have HX := Lib.hid (look_ext t' q')
      have HN := Lib.hid (look_end t' q')
      have HO := Lib.hid (look_on t' q')
      have HK := Lib.hid (fun i => okT_kid t' n HOK.out i)
      have HP := Lib.hid hps
      have HB := Lib.hid (fun k (h : k < 16) => kn_ptr hB k h)
      have HQ := Lib.hid o3
      clear hps hB hne o2 o3
      generalize kindT t' = kd at *
      generalize valT t' = vt at *
      generalize pathT t' = pt at *
      generalize common pt q' = c at *
      have HCM := Lib.hid hcm
      clear hcm
      by_cases h1 : c = pt.length
      · subst h1
        have d1 : decide ((pt.length : Int) < (pt.length : Int)) = false := by simp
        have hdl : (q'.drop pt.length).length = q'.length - pt.length := List.length_drop
        have HF2 := Lib.hid (fit_split q' pt.length HF.out).2
        have hst : List.take (q'.length - pt.length) (q'.drop pt.length) = q'.drop pt.length := List.take_of_length_le (by omega)
        by_cases h2 : kd = 2
        · have HE := Lib.hid (HX.out h2 rfl)
          have hp1 : 1 ≤ pt.length := by
            rcases Nat.eq_zero_or_pos pt.length with h | h
            · exact absurd (List.length_eq_zero_iff.1 h) (HQ.out h2)
            · exact h
          have hk2 : (kd == 2) = true := by simpa using h2
          clear h2 HM HN HO HX
          go_wp2_with fail
          refine (HCM.out _).mono ?_
          rintro e w2 ⟨rfl, n2, rfl⟩
          go_wp2_with fail
          exact ⟨⟨kidsOf t' 0, ps 0, q'.drop pt.length, rfl, by simp, by omega, Lib.hid (HP.out 0 (by omega)), Lib.hid (HK.out 0), HF2, Lib.hid (by rw [← HE.out]; exact HL.out), _, rfl⟩, by simp [strL, ByteArray.size]; omega⟩
        · have hk2 : (kd == 2) = false := by simpa using h2
          cases hd : q'.drop pt.length with
          | nil =>
            rw [hd] at hst
            have HE : Hid (z = vt) := Lib.hid (by rw [← HL.out]; exact HN.out h2 rfl hd)
            clear h2 HM HN HO HX
            go_wp2_with fail
            refine (HCM.out _).mono ?_
            rintro e w2 ⟨rfl, n2, rfl⟩
            go_wp2_with fail
            go_ret
            exact ⟨by rw [HE.out]; rfl, _, rfl⟩
          | cons a r =>
            rw [hd] at hst
            have HE := Lib.hid (HO.out a r h2 rfl hd)
            have hfa := (fit_cons a r).1 (by rw [← hd]; exact HF2.out)
            obtain ⟨ha, hfr⟩ := hfa
            have HFR := Lib.hid hfr
            have hb := HB.out a.toNat ha
            have i1 : 0 ≤ (a.toNat : Int) ∧ (a.toNat : Int) < 16 := by omega
            have hln : r.length + 1 ≤ q'.length := by
              have := congrArg List.length hd
              simp at this; omega
            have hpa := HP.out a.toNat ha
            have HPA := Lib.hid hpa
            clear h2 HM HN HO HX hfr hpa hdl
            go_wp2_with fail
            refine (HCM.out _).mono ?_
            rintro e w2 ⟨rfl, n2, rfl⟩
            go_wp2_with fail
            go_quiet (fail)
            go_wp2_with fail
            exact ⟨⟨kidsOf t' a.toNat, ps a.toNat, r, rfl, by simp, by omega, HPA, Lib.hid (HK.out _), HFR, Lib.hid (by rw [← HE.out]; exact HL.out), _, rfl⟩, by simp [strL, ByteArray.size]; omega⟩
      · have d1 : decide ((c : Int) < (pt.length : Int)) = true := by simp; omega
        have HE : Hid (z = []) := Lib.hid (by rw [← HL.out]; exact HM.out h1)
        clear HM HN HO HX
        go_wp2_with fail
        refine (HCM.out _).mono ?_
        rintro e w2 ⟨rfl, n2, rfl⟩
        go_wp2_with fail
        go_ret
        exact ⟨by rw [HE.out]; rfl, _, rfl⟩
end Go.Proofs.YtdaihimdkgmboaaDoor

/- General tools for walks through drawn regions. -/
set_option linter.unusedSimpArgs false
set_option linter.unusedVariables false
namespace Go.Proofs.YtdaihimdkgmboaaDoor
open Go.RowKit

theorem hold_and {a b : Prop} (h : a) (k : a → b) : a ∧ b := ⟨h, k h⟩
theorem wp_loads {P : Program} {o : Oper} {a : Act} {w : World} {K : Act → World → Prop} {Q : Exit → Act → World → Prop} (u : Value) (hv : (execOp a.eval o).run P w = .ok (.value u) w) (h : K (a.put o.dst u) w) : o.wp P a w K Q := by
  unfold Oper.wp
  rw [hv]
  exact h
theorem wpH_startB {P : Program} {id : Nat} {ops : Array Oper} {Q : Exit → Act → World → Prop} {a : Act} {w : World} (B : Nat) (hm : P.follows .mixedOrders = true)
    (h : Below B w w.drew → wpAnyH P .any ops Q (Below B w) ops.size (Array.replicate ops.size false) a w.drew) : (Code.region id ops true).wp P Q a w :=
  wp_region_held_drew hm (Below.refl _ _).drew h


theorem wpO_op {P : Program} {ops : Array Oper} {Q : Exit → Act → World → Prop} {a : Act} {w : World} {K : Act → World → Prop} {i : Nat} {oi : Oper} (hi : ops[i]? = some oi) (hw : Region.wanted oi (yielded ops a.tmps) = true) (h : oi.wp P a w K Q) : wpOp P ops Q i K a w := by
  unfold wpOp
  simp only [hi, hw, if_true]
  exact .inl h
theorem wpO_call {P : Program} {ops : Array Oper} {Q : Exit → Act → World → Prop} {S : World → Prop} {a : Act} {w : World} {K : Act → World → Prop} {i : Nat} {oi : Oper} (hi : ops[i]? = some oi) (hw : Region.wanted oi (yielded ops a.tmps) = true) {f : FuncId} {args : Array Value} {R : Ending → World → Prop} (hc : Calls P f args w R)
    (hv : (execOp a.eval oi).run P w = .ok (.enter f args) w) (h : ∀ e w', R e w' → ∃ v, e = .returned v ∧ S w' ∧ K (a.put oi.dst v) w') : wpOp P ops Q i (fun a' w' => S w' ∧ K a' w') a w := by
  unfold wpOp
  simp only [hi, hw, if_true]
  refine .inl ?_
  unfold Oper.wp
  rw [hv, Oper.upon_enter]
  refine hc.mono fun e w' hR => ?_
  obtain ⟨v, rfl, h1, h2⟩ := h e w' hR
  exact ⟨h1, h2⟩
/-- A post of the normal exit alone. -/
def NormQ (R : Act → World → Prop) : Exit → Act → World → Prop
  | .normal, a, w => R a w
  | _, _, _ => False
theorem wp_region_ex {P : Program} {c : Code} {Q : Exit → Act → World → Prop} {a : Act} {w : World} {ι : Type} (f : ι → Act → Act) (F : ι → World → Prop) (h : c.wp P (NormQ fun a' w' => ∃ i, a' = f i a ∧ F i w') a w) (k : ∀ i w', F i w' → Q .normal (f i a) w') : c.wp P Q a w :=
  Code.wp_mono (fun e a' w' hq => by
    cases e
    case normal =>
      obtain ⟨i, ha, hF⟩ : ∃ i, a' = f i a ∧ F i w' := hq
      subst ha
      exact k i w' hF
    all_goals exact absurd hq id) h
/-- A new block of zeros, its number a name. -/
theorem wp_allocK {P : Program} {o : Oper} {a : Act} {w : World} {K : Act → World → Prop} {Q : Exit → Act → World → Prop} (t : TypeId) (ho : o.op = .alloc t) (z : Array Value) (hz : ∀ w : World, (execOp a.eval o).run P w = .ok (.value (.pointer (some ⟨w.heap.size, 0, none⟩))) (w.alloc (.cells z t)))
    (h : ∀ k w', w.heap.size ≤ k → Blk w' k z → Below w.heap.size w w' → K (a.put o.dst (.pointer (some ⟨k, 0, none⟩))) w') : o.wp P a w K Q := by
  unfold Oper.wp
  rw [hz w]
  exact h _ _ (Nat.le_refl _) (Blk.new _ _ _) (Below.allocS (Below.refl _ _) _)
/-- A new block, its number a name. -/
theorem wp_newK {P : Program} {o : Oper} {a : Act} {w : World} {K : Act → World → Prop} {Q : Exit → Act → World → Prop} (t : TypeId) (z : Array Value) (u : Nat → Value) (hz : ∀ w : World, (execOp a.eval o).run P w = .ok (.value (u w.heap.size)) (w.alloc (.cells z t)))
    (h : ∀ k w', w.heap.size ≤ k → w'.heap[k]? = some (.cells z t) → k < w'.heap.size → Below w.heap.size w w' → K (a.put o.dst (u k)) w') : o.wp P a w K Q := by
  unfold Oper.wp
  rw [hz w]
  exact h _ _ (Nat.le_refl _) (heap_alloc_new w _) (by simp) (Below.allocS (Below.refl _ _) _)
theorem Blk.of_heap {w : World} {k : Nat} {z : Array Value} {t : TypeId} (hh : w.heap[k]? = some (.cells z t)) (hk : k < w.heap.size) : Blk w k z :=
  ⟨fun o => by simp [World.cell?, hh], fun o => by simp [World.frozen?, hh], hk⟩
end Go.Proofs.YtdaihimdkgmboaaDoor
