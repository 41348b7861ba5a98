/- TPut, Less, Within, Count, Behind. -/
import Derived.RangeFuncNested
import Derived.RangeFuncBound
import Derived.RangeFuncCalls
import Derived.RangeFuncLeaves
import Derived.RangeFuncBox
import Derived.Shelf.Abstract
import Derived.OwnWalkIn
import Derived.TacticsInMore
import Derived.LoopNIn
import Derived.LoopIn
import Derived.Test.YtdaihimdkgmboaaDoorMg1
import Derived.Test.YtdaihimdkgmboaaDoorMg2
import Derived.Test.YtdaihimdkgmboaaDoorMg8
import Derived.Test.YtdaihimdkgmboaaDoorMg11
set_option linter.unnecessarySimpa false

/- Walks of layer 10: an item is put into a trie; the trie of items. -/
set_option linter.unusedSimpArgs false
set_option linter.unusedVariables false
namespace Go.Proofs.YtdaihimdkgmboaaDoor
open Go.RowKit Pl

/-- A put that is refused. -/
def NoP (B : Nat) (w : World) (c : Int) (e : Ending) (w' : World) : Prop := e = .returned (.tuple #[.pointer none, .int .i64 (c)]) ∧ Below B w w'
/-- One that is done. -/
def YesP (B : Nat) (w : World) (t : Tr) (e : Ending) (w' : World) : Prop := ∃ pt, e = .returned (.tuple #[.pointer (some ⟨pt, 0, none⟩), .int .i64 (0)]) ∧ Below B w w' ∧ TAt w' pt t

set_option maxRecDepth 100000 in
set_option maxHeartbeats 4000000 in
theorem tput_no1 (pt : Nat) (k v : Bs) (hk : k.length ≤ 9223372036854775807) (h : keyB k = false) (w : World) :
    Calls Tryd.prog 30 #[.pointer (some ⟨pt, 0, none⟩), .string ⟨List.toArray (k)⟩, .string ⟨List.toArray (v)⟩] w (NoP w.heap.size w 1) := by
  have HK := Lib.hid (tkeyed_any k hk w)
  rw [h] at HK
  clear h
  go_enter Tryd.func30, Tryd.ntmps30
  go_wp2_with fail
  refine HK.out.mono ?_
  rintro e w1 ⟨rfl, rfl⟩
  go_wp2_with fail
  go_ret2
  exact ⟨rfl, Below.refl _ _⟩

set_option maxRecDepth 100000 in
set_option maxHeartbeats 4000000 in
theorem tput_no2 (pt : Nat) (k v : Bs) (hk : k.length ≤ 9223372036854775807) (hvl : v.length ≤ 9223372036854775807) (h : keyB k = true) (hv : v.length < 1 ∨ 32 < v.length) (w : World) :
    Calls Tryd.prog 30 #[.pointer (some ⟨pt, 0, none⟩), .string ⟨List.toArray (k)⟩, .string ⟨List.toArray (v)⟩] w (NoP w.heap.size w 2) := by
  have HK := Lib.hid (tkeyed_any k hk w)
  rw [h] at HK
  clear h
  by_cases h0 : v = []
  · subst h0
    clear hv
    go_enter Tryd.func30, Tryd.ntmps30
    go_wp2_with fail
    refine HK.out.mono ?_
    rintro e w1 ⟨rfl, rfl⟩
    go_wp2_with fail
    go_ret2
    exact ⟨rfl, Below.refl _ _⟩
  · have hl : 1 ≤ v.length := by
      rcases Nat.eq_zero_or_pos v.length with h | h
      · exact absurd (List.length_eq_zero_iff.1 h) h0
      · exact h
    have d : decide ((32 : Int) < (v.length : Int)) = true := by simp only [decide_eq_true_eq]; omega
    have he : v.isEmpty = false := by simpa using h0
    clear h0 hv hl
    go_enter Tryd.func30, Tryd.ntmps30
    go_wp2_with fail
    refine HK.out.mono ?_
    rintro e w1 ⟨rfl, rfl⟩
    go_wp2_with fail
    go_ret2
    exact ⟨rfl, Below.refl _ _⟩

set_option maxRecDepth 100000 in
set_option maxHeartbeats 4000000 in
theorem tput_no3 (pt : Nat) (t : Tr) (L : List It) (k v : Bs) (h : keyB k = true) (hv : 1 ≤ v.length ∧ v.length ≤ 32) (hR : RepT t L) (hL : L.length ≤ 1024) (hh : hasK k L = false) (hm : 1024 ≤ L.length) (w : World) (hT : TAt w pt t) :
    Calls Tryd.prog 30 #[.pointer (some ⟨pt, 0, none⟩), .string ⟨List.toArray (k)⟩, .string ⟨List.toArray (v)⟩] w (NoP w.heap.size w 2) := by
  have hkl : 1 ≤ k.length ∧ k.length ≤ 8 := by simpa [keyB] using h
  have HK := Lib.hid (tkeyed_any k (by omega) w)
  rw [h] at HK
  have hlen : ∀ W, Below w.heap.size w W → Calls Tryd.prog 61 #[.pointer (some ⟨pt, 0, none⟩)] W fun e w' => e = .returned (.int .i64 ((rp t).length)) ∧ W = w' := fun W hb => tlen_any pt t (by rw [hR.len]; omega) W (hT.keep hb)
  rw [hR.len, show L.length = 1024 from by omega] at hlen
  have hlk : Pl.look t (ofP k) = [] := (look_has hR k).2 hh
  have hget : ∀ kp W, KAt W t kp → Calls Tryd.prog 62 #[ptV kp, .string ⟨List.toArray (ofP k)⟩] W fun e w' => e = .returned (.string ⟨List.toArray ([])⟩) ∧ ∃ n, w' = W.drewN n := fun kp W hK => by
    have := get_any t 16 (by omega) kp (ofP k) (by rw [ofP_len]; omega) (ofP_fit k) hR.ok W hK
    rwa [hlk] at this
  have HLN := Lib.hid hlen
  have HGT := Lib.hid hget
  have HOF := Lib.hid (nof_any k (by omega))
  have HT := Lib.hid hT
  have d : decide ((32 : Int) < (v.length : Int)) = false := by simp only [decide_eq_false_iff_not]; omega
  have he : v.isEmpty = false := by cases v <;> simp at hv ⊢
  clear h hR hL hh hm hT hlen hlk hget hv
  generalize ofP k = q at *
  go_enter Tryd.func30, Tryd.ntmps30
  go_wp2_with fail
  refine HK.out.mono ?_
  rintro e w1 ⟨rfl, rfl⟩
  go_wp2_with fail
  refine (HOF.out _).mono ?_
  rintro e w2 ⟨rfl, hb2⟩
  obtain ⟨kp, hB, hKA⟩ := HT.out.keep hb2
  have c0 : w2.cell? ⟨pt, 0, none⟩ = some (ptV kp) := hB.cell 0
  clear hB
  go_wp2_with fail
  refine (HLN.out _ hb2).mono ?_
  rintro e w3 ⟨rfl, rfl⟩
  go_wp2_with fail
  refine (HGT.out kp _ hKA).mono ?_
  rintro e w4 ⟨rfl, n4, rfl⟩
  go_wp2_with fail
  go_ret2
  exact ⟨rfl, below_drewN hb2 _⟩

set_option maxRecDepth 100000 in
set_option maxHeartbeats 4000000 in
theorem tput_yes (pt : Nat) (t : Tr) (L : List It) (k v : Bs) (h : keyB k = true) (hv : 1 ≤ v.length ∧ v.length ≤ 32) (hR : RepT t L) (hL : L.length ≤ 1024) (hh : hasK k L = true ∨ L.length < 1024) (w : World) (hk : KT w) (hT : TAt w pt t) :
    Calls Tryd.prog 30 #[.pointer (some ⟨pt, 0, none⟩), .string ⟨List.toArray (k)⟩, .string ⟨List.toArray (v)⟩] w (YesP w.heap.size w (putT t (ofP k) v)) := by
  have hkl : 1 ≤ k.length ∧ k.length ≤ 8 := by simpa [keyB] using h
  have HK := Lib.hid (tkeyed_any k (by omega) w)
  rw [h] at HK
  have hlen : ∀ W, Below w.heap.size w W → Calls Tryd.prog 61 #[.pointer (some ⟨pt, 0, none⟩)] W fun e w' => e = .returned (.int .i64 ((rp t).length)) ∧ W = w' := fun W hb => tlen_any pt t (by rw [hR.len]; omega) W (hT.keep hb)
  rw [hR.len] at hlen
  have HLN := Lib.hid hlen
  have HGT := Lib.hid (fun kp W hK => get_any t 16 (by omega) kp (ofP k) (by rw [ofP_len]; omega) (ofP_fit k) hR.ok W hK)
  have HPU := Lib.hid (fun kp W (hk : KT W) hK => put_any v t 16 (by omega) (ofP k) (by rw [ofP_len]; omega) (ofP_fit k) hR.ok kp W hk hK)
  have HOF := Lib.hid (nof_any k (by omega))
  have HT := Lib.hid hT
  have HKT := Lib.hid hk
  have d : decide ((32 : Int) < (v.length : Int)) = false := by simp only [decide_eq_false_iff_not]; omega
  have he : v.isEmpty = false := by cases v <;> simp at hv ⊢
  have HNE := Lib.hid (look_has hR k)
  have HRL := Lib.hid hR.len
  clear h hT hlen hv hk hR
  generalize putT t (ofP k) v = t2 at *
  generalize Pl.look t (ofP k) = lk at *
  generalize ofP k = q at *
  by_cases hm : L.length < 1024
  · have d2 : decide ((1024 : Int) ≤ (L.length : Int)) = false := by simp only [decide_eq_false_iff_not]; omega
    clear hh hm
    go_enter Tryd.func30, Tryd.ntmps30
    go_wp2_with fail
    refine HK.out.mono ?_
    rintro e w1 ⟨rfl, rfl⟩
    go_wp2_with fail
    refine (HOF.out _).mono ?_
    rintro e w2 ⟨rfl, hb2⟩
    obtain ⟨kp, hB, hKA⟩ := HT.out.keep hb2
    have c0 : w2.cell? ⟨pt, 0, none⟩ = some (ptV kp) := hB.cell 0
    clear hB
    go_wp2_with fail
    refine (HLN.out _ hb2).mono ?_
    rintro e w3 ⟨rfl, rfl⟩
    go_wp2_with fail
    refine (HPU.out kp _ (HKT.out.keep hb2) hKA).mono ?_
    rintro e w4 ⟨b4, rfl, hb4, hK4⟩
    go_wp2_with fail
    go_ret2
    exact ⟨_, rfl, Below.allocS (hb2.trans (hb4.mono hb2.size)) _, some b4, Blk.new _ _ _, hK4.keep (Below.allocS (Below.refl _ _) _)⟩
  · have d2 : decide ((1024 : Int) ≤ (L.length : Int)) = true := by simp only [decide_eq_true_eq]; omega
    have hlk : lk ≠ [] := fun e => by
      have h1 := HNE.out.1 e
      rcases hh with h2 | h2
      · rw [h1] at h2; cases h2
      · exact hm h2
    have hle : lk.isEmpty = false := by simpa using hlk
    clear hh hm hlk
    go_enter Tryd.func30, Tryd.ntmps30
    go_wp2_with fail
    refine HK.out.mono ?_
    rintro e w1 ⟨rfl, rfl⟩
    go_wp2_with fail
    refine (HOF.out _).mono ?_
    rintro e w2 ⟨rfl, hb2⟩
    obtain ⟨kp, hB, hKA⟩ := HT.out.keep hb2
    have c0 : w2.cell? ⟨pt, 0, none⟩ = some (ptV kp) := hB.cell 0
    clear hB
    go_wp2_with fail
    refine (HLN.out _ hb2).mono ?_
    rintro e w3 ⟨rfl, rfl⟩
    go_wp2_with fail
    refine (HGT.out kp _ hKA).mono ?_
    rintro e w4 ⟨rfl, n4, rfl⟩
    go_wp2_with fail
    refine (HPU.out kp _ (HKT.out.keep (below_drewN hb2 _)) (hKA.keep (below_drewN (Below.refl _ _) _))).mono ?_
    rintro e w5 ⟨b4, rfl, hb4, hK4⟩
    go_wp2_with fail
    go_ret2
    exact ⟨_, rfl, Below.allocS ((below_drewN hb2 n4).trans (hb4.mono hb2.size)) _, some b4, Blk.new _ _ _, hK4.keep (Below.allocS (Below.refl _ _) _)⟩

/-- What Of tells. -/
def TOfP (l : List It) (B : Nat) (w : World) (e : Ending) (w' : World) : Prop :=
  Below B w w' ∧ (((ofI [] l).2 = 0 ∧ ∃ pt t, e = .returned (.tuple #[.pointer (some ⟨pt, 0, none⟩), .int .i64 (0)]) ∧ TAt w' pt t ∧ RepT t (ofI [] l).1) ∨ ((ofI [] l).2 ≠ 0 ∧ e = .returned (.tuple #[.pointer none, .int .i64 ((ofI [] l).2)])))
/-- What lies while it goes on. -/
structure TAcc (w : World) (pt : Nat) (acc : List It) : Prop where
  at' : ∃ t, TAt w pt t ∧ RepT t acc
  good : GoodI acc
theorem TAcc.keep {W w : World} (hb : Below W.heap.size W w) {pt : Nat} {acc : List It} (h : TAcc W pt acc) : TAcc w pt acc := by
  obtain ⟨t, h1, h2⟩ := h.at'
  exact ⟨⟨t, h1.keep hb, h2⟩, h.good⟩
theorem putE_cases (L : List It) (k v : Bs) : (putE L k v = 1 ∧ keyB k = false) ∨ (putE L k v = 2 ∧ keyB k = true ∧ ((v.length < 1 ∨ 32 < v.length) ∨ ((1 ≤ v.length ∧ v.length ≤ 32) ∧ hasK k L = false ∧ 1024 ≤ L.length))) ∨
    (putE L k v = 0 ∧ keyB k = true ∧ (1 ≤ v.length ∧ v.length ≤ 32) ∧ (hasK k L = true ∨ L.length < 1024)) := by
  unfold putE
  by_cases h1 : keyB k = false
  · exact .inl ⟨by rw [if_pos h1], h1⟩
  · rw [if_neg h1]
    have h1' : keyB k = true := by simpa using h1
    by_cases h2 : v.length < 1 ∨ 32 < v.length ∨ (hasK k L = false ∧ 1024 ≤ L.length)
    · rw [if_pos h2]
      refine .inr (.inl ⟨rfl, h1', ?_⟩)
      rcases h2 with h | h | h
      · exact .inl (.inl h)
      · exact .inl (.inr h)
      · by_cases h3 : v.length < 1 ∨ 32 < v.length
        · exact .inl h3
        · exact .inr ⟨by omega, h⟩
    · rw [if_neg h2]
      refine .inr (.inr ⟨rfl, h1', by omega, ?_⟩)
      by_cases h3 : hasK k L = true
      · exact .inl h3
      · right
        have h4 : hasK k L = false := by simpa using h3
        rcases Nat.lt_or_ge L.length 1024 with h5 | h5
        · exact h5
        · exact absurd (.inr (.inr ⟨h4, h5⟩)) h2
theorem tput_acc (pt : Nat) (acc : List It) (k v : Bs) (hk : k.length ≤ 9223372036854775807) (hvl : v.length ≤ 9223372036854775807) (w : World) (hkt : KT w) (hA : TAcc w pt acc) (h0 : putE acc k v = 0) :
    Calls Tryd.prog 30 #[.pointer (some ⟨pt, 0, none⟩), .string ⟨List.toArray (k)⟩, .string ⟨List.toArray (v)⟩] w fun e w' => ∃ p2, e = .returned (.tuple #[.pointer (some ⟨p2, 0, none⟩), .int .i64 (0)]) ∧ Below w.heap.size w w' ∧ TAcc w' p2 (insI k v acc) := by
  obtain ⟨t, hT, hR⟩ := hA.at'
  rcases putE_cases acc k v with ⟨h, _⟩ | ⟨h, _⟩ | ⟨_, h1, h2, h3⟩
  · rw [h0] at h; cases h
  · rw [h0] at h; cases h
  · refine (tput_yes pt t acc k v h1 h2 hR hA.good.many h3 w hkt hT).mono ?_
    rintro e w' ⟨p2, rfl, hb, hT2⟩
    obtain ⟨g1, g2, g3, _⟩ := hA.good.put k v h0
    exact ⟨p2, rfl, hb, ⟨_, hT2, hR.put k v g2 g3⟩, g1⟩
theorem tput_ref (pt : Nat) (acc : List It) (k v : Bs) (hk : k.length ≤ 9223372036854775807) (hvl : v.length ≤ 9223372036854775807) (w : World) (hA : TAcc w pt acc) (h0 : putE acc k v ≠ 0) :
    Calls Tryd.prog 30 #[.pointer (some ⟨pt, 0, none⟩), .string ⟨List.toArray (k)⟩, .string ⟨List.toArray (v)⟩] w (NoP w.heap.size w (putE acc k v)) := by
  obtain ⟨t, hT, hR⟩ := hA.at'
  rcases putE_cases acc k v with ⟨h, h1⟩ | ⟨h, h1, h2 | ⟨h2, h3, h4⟩⟩ | ⟨h, _⟩
  · rw [h]; exact tput_no1 pt k v hk h1 w
  · rw [h]; exact tput_no2 pt k v hk hvl h1 h2 w
  · rw [h]; exact tput_no3 pt t acc k v h1 h2 hR hA.good.many h3 h4 w hT
  · exact absurd h h0

theorem tnew_any (w : World) : Calls Tryd.prog 29 #[] w fun e w' => ∃ pt, e = .returned (.pointer (some ⟨pt, 0, none⟩)) ∧ Below w.heap.size w w' ∧ TAcc w' pt [] := by
  have hb0 : Below w.heap.size w (w.alloc (.cells #[.pointer none] 72)) := Below.allocS (Below.refl _ _) _
  have hA0 : TAcc (w.alloc (.cells #[.pointer none] 72)) w.heap.size [] := ⟨⟨.nil, ⟨none, Blk.new _ _ _, .nil⟩, RepT.start⟩, GoodI.nil⟩
  have HB := Lib.hid hb0
  have HA := Lib.hid hA0
  clear hb0 hA0
  go_enter Tryd.func29, Tryd.ntmps29
  go_wp2_with fail
  go_ret
  exact ⟨_, rfl, HB.out, HA.out⟩

set_option maxRecDepth 100000 in
set_option maxHeartbeats 4000000 in
theorem tof_any (v : Value) (l : List It) (hsh : ∀ x ∈ l, x.1.length ≤ 9223372036854775807 ∧ x.2.length ≤ 9223372036854775807) (w : World) (hk : KT w) (hv : IL w v l) :
    Calls Tryd.prog 11 #[v] w (TOfP l w.heap.size w) := by
  obtain ⟨va, vc, rfl⟩ := hv.form
  have hls := hv.small
  have HV := Lib.hid hv
  have HK := Lib.hid hk
  have HSH := Lib.hid hsh
  have HN := Lib.hid (tnew_any w)
  generalize hz : ofI [] l = z
  have HZ := Lib.hid hz
  have HP : Hid (∀ e w', (Below w.heap.size w w' ∧ ((z.2 = 0 ∧ ∃ pt t, e = .returned (.tuple #[.pointer (some ⟨pt, 0, none⟩), .int .i64 (0)]) ∧ TAt w' pt t ∧ RepT t z.1) ∨ (z.2 ≠ 0 ∧ e = .returned (.tuple #[.pointer none, .int .i64 (z.2)])))) → TOfP l w.heap.size w e w') := Lib.hid (by
    intro e w' h
    unfold TOfP
    rw [hz]; exact h)
  clear hv hk hsh hz
  go_enter Tryd.func11, Tryd.ntmps11
  go_wp2_with fail
  refine HN.out.mono ?_
  rintro e w1 ⟨pt, rfl, hb1, hA1⟩
  have HB1 := Lib.hid hb1
  have HA1 := Lib.hid hA1
  clear HN hb1 hA1
  go_wp2_with fail
  go_loopw [4, 12] (fun s4 s12 wr => ∃ (i pt : Nat) (acc : List It), s4 = .pointer (some ⟨pt, 0, none⟩) ∧ s12 = .int .i64 (i) ∧ i ≤ l.length ∧ Hid (TAcc wr pt acc) ∧ Hid (z = ofI acc (l.drop i)) ∧ Below w.heap.size w wr) (fun _ s12 _ => l.length - (intOf s12).toNat)
  case atStart => exact ⟨0, pt, [], rfl, rfl, Nat.zero_le _, HA1, Lib.hid (by rw [List.drop_zero]; exact HZ.out.symm), HB1.out⟩
  case round =>
    obtain ⟨i, pt', acc, rfl, rfl, hi, HA, HQ, hb⟩ := hrel
    clear HA1 HB1 HZ
    by_cases hlt : i < l.length
    · have d1 : decide ((i : Int) < (l.length : Int)) = true := by simp; omega
      have i0 : 0 ≤ (i : Int) ∧ (i : Int) < (l.length : Int) := by omega
      obtain ⟨g, off, rfl, hg, e1, e2⟩ := (HV.out.keep hb).at i hlt
      have hdr := dropI l i hlt
      have hxm : l.getD i ([], []) ∈ l := by
        rw [List.getD_eq_getElem?_getD, List.getElem?_eq_getElem hlt]
        exact List.getElem_mem hlt
      obtain ⟨s1, s2⟩ := HSH.out _ hxm
      have hQ2 := HQ.out
      rw [hdr] at hQ2
      clear hdr hxm HQ
      generalize l.getD i ([], []) = x at *
      obtain ⟨k, u⟩ := x
      simp only at e1 e2 s1 s2
      unfold ofI at hQ2
      simp only at hQ2
      have hbA := Below.allocS (Below.refl _ _) (Obj.cells #[.string ⟨List.toArray (k)⟩, .string ⟨List.toArray (u)⟩] 44) (w := wr)
      by_cases h0 : putE acc k u = 0
      · rw [if_pos h0] at hQ2
        have HPU := Lib.hid (fun W h1 h2 => tput_acc pt' acc k u s1 s2 W h1 h2 h0)
        have HQ2 := Lib.hid hQ2
        clear h0 hQ2
        go_wp2_with fail
        refine (HPU.out _ (HK.out.keep (Below.allocS hb _)) (HA.out.keep (Below.allocS (Below.refl _ _) _))).mono ?_
        rintro e w2 ⟨p2, rfl, hb2, hA2⟩
        go_wp2_with fail
        exact ⟨⟨i + 1, p2, insI k u acc, rfl, by go_num, by omega, Lib.hid hA2, HQ2, (Below.allocS hb _).trans (hb2.mono (Below.allocS hb _).size)⟩, by simp [intOf]; omega⟩
      · rw [if_neg h0] at hQ2
        have HPU := Lib.hid (fun W h2 => tput_ref pt' acc k u s1 s2 W h2 h0)
        have HQ2 := Lib.hid hQ2
        have h0' : (putE acc k u == 0) = false := by simpa using h0
        have HN0 := Lib.hid h0
        clear h0 hQ2
        generalize putE acc k u = c at *
        go_wp2_with fail
        refine (HPU.out _ (HA.out.keep (Below.allocS (Below.refl _ _) _))).mono ?_
        rintro e w2 ⟨rfl, hb2⟩
        go_wp2_with fail
        go_ret2
        exact HP.out _ _ ⟨(Below.allocS hb _).trans (hb2.mono (Below.allocS hb _).size), .inr ⟨by rw [HQ2.out]; exact HN0.out, by rw [HQ2.out]; rfl⟩⟩
    · have e : i = l.length := by omega
      subst e
      have hQ2 := HQ.out
      rw [List.drop_length] at hQ2
      have HQ2 := Lib.hid hQ2
      clear hQ2 HQ
      obtain ⟨t, hT, hR⟩ := HA.out.at'
      have HT := Lib.hid hT
      have HR := Lib.hid hR
      clear hT hR
      go_wp2_with fail
      go_ret2
      exact HP.out _ _ ⟨hb, .inl ⟨by rw [HQ2.out]; rfl, _, t, rfl, HT.out, by rw [HQ2.out]; exact HR.out⟩⟩
end Go.Proofs.YtdaihimdkgmboaaDoor

/- The order of texts in a walk. -/
set_option linter.unusedSimpArgs false
set_option linter.unusedVariables false
namespace Go.Proofs.YtdaihimdkgmboaaDoor
open Go.RowKit Pl

theorem lessD : ∀ (x y : Bs), Op.bytesLess x y = decide (x < y)
  | [], [] => by simp [Op.bytesLess]
  | _ :: _, [] => by simp [Op.bytesLess]
  | [], _ :: _ => by simp [Op.bytesLess]
  | a :: x, b :: y => by
    rw [Op.bytesLess, lessD x y]
    rw [Bool.eq_iff_iff]
    simp [List.cons_lt_cons_iff]
theorem geD (x y : Bs) : (Op.bytesLess x y || x == y) = !decide (y < x) := by
  rw [lessD, Bool.eq_iff_iff]
  simp only [Bool.or_eq_true, decide_eq_true_eq, beq_iff_eq, Bool.not_eq_true', decide_eq_false_iff_not]
  constructor
  · rintro (h | h)
    · exact fun h2 => List.lt_irrefl _ (List.lt_trans h h2)
    · subst h; exact List.lt_irrefl _
  · intro h
    by_cases e : x = y
    · exact .inr e
    · left
      rcases Classical.em (x < y) with h1 | h1
      · exact h1
      · exact absurd (List.le_antisymm (List.not_lt.1 h) (List.not_lt.1 h1)) e
@[go_sem high] theorem lss_D (t : TypeId) (a b : Bs) : binOp .lss t (.string ⟨List.toArray (a)⟩) (.string ⟨List.toArray (b)⟩) = pure (.bool (decide (a < b))) := by
  rw [binOp_string_lss, Lib.toList_data, Lib.toList_data, lessD]
@[go_sem high] theorem geq_D (t : TypeId) (a b : Bs) : binOp .geq t (.string ⟨List.toArray (a)⟩) (.string ⟨List.toArray (b)⟩) = pure (.bool (!decide (a < b))) := by
  rw [binOp_string_geq, Lib.toList_data, Lib.toList_data, lessD]
@[go_sem high] theorem leq_D (t : TypeId) (a b : Bs) : binOp .leq t (.string ⟨List.toArray (a)⟩) (.string ⟨List.toArray (b)⟩) = pure (.bool (!decide (b < a))) := by
  rw [binOp_string_leq, Lib.toList_data, Lib.toList_data, geD]
@[go_sem high] theorem gtr_D (t : TypeId) (a b : Bs) : binOp .gtr t (.string ⟨List.toArray (a)⟩) (.string ⟨List.toArray (b)⟩) = pure (.bool (decide (b < a))) := by
  rw [binOp_string_gtr, Lib.toList_data, Lib.toList_data, geD, Bool.not_not]
end Go.Proofs.YtdaihimdkgmboaaDoor

/- Walks of layer 11: a range's items, one by one: the iterator. -/
set_option linter.unusedSimpArgs false
set_option linter.unusedVariables false
namespace Go.Proofs.YtdaihimdkgmboaaDoor
open Go.RowKit Go.Shelf Pl

attribute [local go_sem] Oper.semAt_some

theorem cell_lt' {W : World} {g o : Nat} {x : Value} (h : W.cell? ⟨g, o, none⟩ = some x) : g < W.heap.size := by
  rcases Nat.lt_or_ge g W.heap.size with hlt | hge
  · exact hlt
  · unfold World.cell? at h
    rw [Array.getElem?_eq_none hge] at h
    simp at h
/-- What a round that goes on keeps: blocks of cells, but for the body's own; of these none is taken that lay there. -/
structure KpO (own : World → List Nat) (W W' : World) : Prop where
  size : W.heap.size ≤ W'.heap.size
  same : ∀ (k : Nat) (o : Obj), W.heap[k]? = some o → o.isCells = true → k ∉ own W → W'.heap[k]? = some o
  own : ∀ k, k ∈ own W' → k ∈ own W ∨ W.heap.size ≤ k
theorem KpO.trans {own : World → List Nat} {A B C : World} (h : KpO own A B) (k : KpO own B C) : KpO own A C := by
  refine ⟨Nat.le_trans h.size k.size, fun i o hi ho hn => ?_, fun i hi => ?_⟩
  · refine k.same i o (h.same i o hi ho hn) ho (fun hm => ?_)
    rcases h.own i hm with h1 | h1
    · exact hn h1
    · have := (Array.getElem?_eq_some_iff.1 hi).1; omega
  · rcases k.own i hi with h1 | h1
    · exact h.own i h1
    · exact .inr (Nat.le_trans h.size h1)
theorem KpO.cell {own : World → List Nat} {W W' : World} (h : KpO own W W') {b o : Nat} {v : Value} (hc : W.cell? ⟨b, o, none⟩ = some v) (hn : b ∉ own W) : W'.cell? ⟨b, o, none⟩ = some v := by
  obtain ⟨ob, h1, h2⟩ := cells_of_cell hc
  have h3 := h.same b ob h1 h2 hn
  have h1' : W.heap[b]? = some ob := h1
  exact (World.cell?_of_block (w := W) (a := ⟨b, o, none⟩) (h3.trans h1'.symm)).trans hc
/-- Cells that lie in a world, in blocks that are not the body's own. -/
def InW (own : World → List Nat) (W : World) (b : Nat) : Prop := b < W.heap.size ∧ b ∉ own W
theorem InW.step {own : World → List Nat} {W W' : World} {b : Nat} (h : InW own W b) (k : KpO own W W') : InW own W' b := by
  refine ⟨Nat.lt_of_lt_of_le h.1 k.size, fun hm => ?_⟩
  rcases k.own b hm with h1 | h1
  · exact h.2 h1
  · have := h.1; omega
theorem KpO.ofBelow {own : World → List Nat} {n₀ : Nat} (hown : ∀ W W' : World, Below n₀ W W' → own W' = own W) {W w : World} (hn : n₀ ≤ W.heap.size) (hb : Below W.heap.size W w) : KpO own W w :=
  ⟨hb.size, fun k o h _ _ => (hb.block k (Array.getElem?_eq_some_iff.1 h).1).trans h, fun k hk => .inl (by rw [hown _ _ (hb.mono hn)] at hk; exact hk)⟩
theorem grown_of {W w : World} (hb : Below W.heap.size W w) : W.grownBy w none := ⟨hb.os, hb.tape, hb.output, hb.size, fun k hk _ => hb.block k hk⟩
/-- What lies while the iterator goes on. -/
structure WSt (own : World → List Nat) (B2 B3 : Nat) (f e : Bs) (va : Option Addr) (L : List It) (wr : World) : Prop where
  c2 : wr.cell? ⟨B2, 0, none⟩ = some (.string ⟨List.toArray (f)⟩)
  c3 : wr.cell? ⟨B3, 0, none⟩ = some (.string ⟨List.toArray (e)⟩)
  i2 : InW own wr B2
  i3 : InW own wr B3
  row : ∀ i, i < L.length → ∃ g o, va = some ⟨g, o, none⟩ ∧ InW own wr g ∧ wr.cell? ⟨g, o + i * 2, none⟩ = some (.string ⟨List.toArray ((L.getD i ([], [])).1)⟩) ∧ wr.cell? ⟨g, o + i * 2 + 1, none⟩ = some (.string ⟨List.toArray ((L.getD i ([], [])).2)⟩)
theorem WSt.step {own : World → List Nat} {B2 B3 : Nat} {f e : Bs} {va : Option Addr} {L : List It} {W W' : World} (h : WSt own B2 B3 f e va L W) (k : KpO own W W') : WSt own B2 B3 f e va L W' := by
  refine ⟨k.cell h.c2 h.i2.2, k.cell h.c3 h.i3.2, h.i2.step k, h.i3.step k, fun i hi => ?_⟩
  obtain ⟨g, o, h1, h2, h3, h4⟩ := h.row i hi
  exact ⟨g, o, h1, h2.step k, k.cell h3 h2.2, k.cell h4 h2.2⟩
theorem wI_step (f e : Bs) (L : List It) (k : Nat) (hk : k < L.length) : wI f e (L.drop k) = if (L.getD k ([], [])).1 < f then wI f e (L.drop (k + 1)) else if e ≠ [] ∧ ¬ (L.getD k ([], [])).1 < e then [] else L.getD k ([], []) :: wI f e (L.drop (k + 1)) := by
  rw [dropI L k hk]; rfl

set_option maxRecDepth 100000 in
set_option maxHeartbeats 8000000 in
theorem within1_in (n : Nat) (hn : 1 ≤ n) (own : World → List Nat) (n₀ : Nat) (hown : ∀ W W' : World, Below n₀ W W' → own W' = own W) (l B1 B2 B3 pt : Nat) (t : Tr) (L : List It) (hR : RepT t L) (hL : L.length ≤ 100000) (f e : Bs)
    (J Jx : List It → World → Prop) (W : World) (hn₀ : n₀ ≤ W.heap.size) (hJ : AbidesFrom W.heap.size J) (hJx : AbidesFrom W.heap.size Jx)
    (hY : ∀ pre x W1, J pre W1 → pre.length < L.length → YieldAt Fence.wide (n - 1) Tryd.prog l #[.agg #[.string ⟨List.toArray (x.1)⟩, .string ⟨List.toArray (x.2)⟩]] W1 fun e W' =>
      (e = .returned (.bool true) ∧ J (pre ++ [x]) W' ∧ KpO own W1 W') ∨ (e = .returned (.bool false) ∧ Jx (pre ++ [x]) W'))
    (hfr : ∀ k ∈ own W, k < W.heap.size) (h1 : W.cell? ⟨B1, 0, none⟩ = some (.pointer (some ⟨pt, 0, none⟩))) (h2 : W.cell? ⟨B2, 0, none⟩ = some (.string ⟨List.toArray (f)⟩)) (h3 : W.cell? ⟨B3, 0, none⟩ = some (.string ⟨List.toArray (e)⟩))
    (i2 : InW own W B2) (i3 : InW own W B3) (hT : TAt W pt t) (h0 : J [] W) :
    CallsIn Fence.wide n Tryd.prog 64 #[.func (.yield l) #[] #[], .pointer (some ⟨B1, 0, none⟩), .pointer (some ⟨B2, 0, none⟩), .pointer (some ⟨B3, 0, none⟩)] W fun e' W' => (∃ v, e' = .returned v) ∧
      ((∃ ys, ys = wI f e L ∧ J ys W') ∨ (∃ pre, pre <+: wI f e L ∧ Jx pre W')) := by
  have HI := Lib.hid (titems_any pt t L hR hL W hT)
  have HJ := Lib.hid hJ
  have HY := Lib.hid hY
  have HOW := Lib.hid hown
  have HFR := Lib.hid hfr
  have HZ := Lib.hid h0
  have I2 := Lib.hid i2
  have I3 := Lib.hid i3
  clear hT hJ hJx hY hown hfr hR h0 i2 i3
  refine callsIn_of_wp Tryd.func64 rfl trivial ?_ rfl
  simp only [Tryd.ntmps64, List.size_toArray, List.length_cons, List.length_nil, Nat.reduceAdd, Nat.reduceSub, Array.replicate_succ, Array.replicate_zero, List.push_toArray, List.append_toArray, List.nil_append, List.cons_append]
  gi_wp2_with (refine ⟨trivial, ?_⟩; gi_at_call 19; refine (callsIn_wide.2 HI.out).mono ?_; rintro e1 w1 ⟨v, rfl, hr1, hb1⟩; obtain ⟨va, vc, rfl⟩ := hr1.form)
  have hk1 := KpO.ofBelow HOW.out hn₀ hb1
  have hs1 := hb1.size
  have hJ1 := HJ.out [] W w1 none HZ.out (grown_of hb1) (fun _ e => by cases e)
  have hW1 : WSt own B2 B3 f e va L w1 := by
    refine ⟨keepC hb1 h2, keepC hb1 h3, I2.out.step hk1, I3.out.step hk1, fun i hi => ?_⟩
    obtain ⟨g, o, e1, e2, e3, e4⟩ := hr1.il.at i hi
    refine ⟨g, o, e1, ⟨e2, fun hm => ?_⟩, e3, e4⟩
    rw [HOW.out _ _ (hb1.mono hn₀)] at hm
    have h5 := HFR.out g hm
    have h6 := hr1.own g (by rw [e1]; rfl)
    omega
  have HW1 := Lib.hid hW1
  have HJ1 := Lib.hid hJ1
  have hLi : (L.length : Int) ≤ 100000 := by omega
  clear hr1 hb1 hk1 hJ1 hW1 h1 h2 h3
  gi_loopw [10] (fun s10 wr => ∃ (k : Nat) (pre : List It), s10 = .int .i64 (k) ∧ k ≤ L.length ∧ Hid (WSt own B2 B3 f e va L wr) ∧ Hid (J pre wr) ∧ Hid (pre ++ wI f e (L.drop k) = wI f e L) ∧ pre.length ≤ k ∧ W.heap.size ≤ wr.heap.size) (fun s10 _ => L.length - (intOf s10).toNat)
  case atStart => exact ⟨0, [], rfl, Nat.zero_le _, HW1, HJ1, Lib.hid (by simp), Nat.le_refl _, hs1⟩
  case round =>
    obtain ⟨k, pre, rfl, hk, HW, HJr, HP, hpk, hsr⟩ := hrel
    clear HW1 HJ1
    by_cases hlt : k < L.length
    · have d1 : decide ((k : Int) < (L.length : Int)) = true := by simp; omega
      have i0 : 0 ≤ (k : Int) ∧ (k : Int) < (L.length : Int) := by omega
      obtain ⟨g, o, rfl, _, e1, e2⟩ := HW.out.row k hlt
      have c2 := HW.out.c2
      have c3 := HW.out.c3
      have l2 := HW.out.i2.1
      have l3 := HW.out.i3.1
      have hws := wI_step f e L k hlt
      have HPS := HP.out
      rw [hws] at HPS
      have hbx : Below wr.heap.size wr (wr.alloc (.cells #[.string ⟨List.toArray ((L.getD k ([], [])).1)⟩, .string ⟨List.toArray ((L.getD k ([], [])).2)⟩] 44)) := Below.allocS (Below.refl _ _) _
      have hkx := KpO.ofBelow HOW.out (Nat.le_trans hn₀ hsr) hbx
      have HWx := Lib.hid (HW.out.step hkx)
      have HJx := Lib.hid (HJ.out pre wr _ none HJr.out (grown_of hbx) (fun _ e => by cases e))
      have hyx := HY.out pre (L.getD k ([], [])) _ HJx.out (by omega)
      have hsx : W.heap.size ≤ (wr.alloc (.cells #[.string ⟨List.toArray ((L.getD k ([], [])).1)⟩, .string ⟨List.toArray ((L.getD k ([], [])).2)⟩] 44)).heap.size := Nat.le_trans hsr hbx.size
      clear hws hbx hkx HP HJr
      generalize L.getD k ([], []) = x at *
      obtain ⟨xk, xv⟩ := x
      simp only at e1 e2 HPS HWx HJx hyx hsx
      by_cases hf : xk < f
      · rw [if_pos hf] at HPS
        have HPS' := Lib.hid HPS
        have df : decide (xk < f) = true := by simpa using hf
        clear hf HPS hyx
        gi_wp2
        go_roundw
        case rel => exact ⟨k + 1, pre, by go_num, by omega, HWx, HJx, HPS', by omega, hsx⟩
        case measure => simp [intOf]; omega
      · rw [if_neg hf] at HPS
        have df : decide (xk < f) = false := by simpa using hf
        clear hf
        by_cases he : e = []
        · subst he
          rw [if_neg (fun h => h.1 rfl)] at HPS
          have HPS' := Lib.hid HPS
          clear HPS
          obtain ⟨fn, tmps, assign, body, hy, hR⟩ := hyx
          gi_wp2
          refine hR.mono ?_
          rintro e3 W3 (⟨rfl, hJ3, hk3⟩ | ⟨rfl, hJx3⟩)
          · have HW3 := Lib.hid (HWx.out.step hk3)
            have HJ3 := Lib.hid hJ3
            have hs3 := Nat.le_trans hsx hk3.size
            clear hJ3 hk3
            gi_wp2
            go_roundw
            case rel => exact ⟨k + 1, pre ++ [(xk, xv)], by go_num, by omega, HW3, HJ3, Lib.hid (by rw [List.append_assoc]; exact HPS'.out), by simp; omega, hs3⟩
            case measure => simp [intOf]; omega
          · have HJ3 := Lib.hid hJx3
            clear hJx3
            gi_wp2
            refine bodyPost_ret (results_none rfl _ _ _) rfl ?_
            exact ⟨⟨_, rfl⟩, .inr ⟨pre ++ [(xk, xv)], ⟨wI f [] (L.drop (k + 1)), by rw [List.append_assoc]; exact HPS'.out⟩, HJ3.out⟩⟩
        · have de : e.isEmpty = false := by simpa using he
          by_cases hl : xk < e
          · rw [if_neg (fun h => h.2 hl)] at HPS
            have HPS' := Lib.hid HPS
            have dl : decide (xk < e) = true := by simpa using hl
            clear HPS hl he
            obtain ⟨fn, tmps, assign, body, hy, hR⟩ := hyx
            gi_wp2
            refine hR.mono ?_
            rintro e3 W3 (⟨rfl, hJ3, hk3⟩ | ⟨rfl, hJx3⟩)
            · have HW3 := Lib.hid (HWx.out.step hk3)
              have HJ3 := Lib.hid hJ3
              have hs3 := Nat.le_trans hsx hk3.size
              clear hJ3 hk3
              gi_wp2
              go_roundw
              case rel => exact ⟨k + 1, pre ++ [(xk, xv)], by go_num, by omega, HW3, HJ3, Lib.hid (by rw [List.append_assoc]; exact HPS'.out), by simp; omega, hs3⟩
              case measure => simp [intOf]; omega
            · have HJ3 := Lib.hid hJx3
              clear hJx3
              gi_wp2
              refine bodyPost_ret (results_none rfl _ _ _) rfl ?_
              exact ⟨⟨_, rfl⟩, .inr ⟨pre ++ [(xk, xv)], ⟨wI f e (L.drop (k + 1)), by rw [List.append_assoc]; exact HPS'.out⟩, HJ3.out⟩⟩
          · rw [if_pos ⟨he, hl⟩, List.append_nil] at HPS
            have HPS' := Lib.hid HPS
            have dl : decide (xk < e) = false := by simpa using hl
            clear HPS hl he hyx
            gi_wp2
            refine ⟨fun _ h => (by cases h), ?_⟩
            gi_wp2
            refine bodyPost_ret (results_none rfl _ _ _) rfl ?_
            exact ⟨⟨_, rfl⟩, .inl ⟨pre, HPS'.out, HJx.out⟩⟩
    · obtain rfl : k = L.length := by omega
      gi_wp2
      go_end0
      exact ⟨⟨_, rfl⟩, .inl ⟨pre, by have := HP.out; rw [List.drop_length] at this; simpa [wI] using this, HJr.out⟩⟩

/-- What within tells: a value that goes through a range's items. -/
theorem within_stops (n : Nat) (hn : 1 ≤ n) (own : World → List Nat) (n₀ : Nat) (hown : ∀ W W' : World, Below n₀ W W' → own W' = own W) (B1 B2 B3 pt : Nat) (t : Tr) (L : List It) (hR : RepT t L) (hL : L.length ≤ 100000) (f e : Bs) (w : World)
    (hn₀ : n₀ ≤ w.heap.size) (hfr : ∀ k ∈ own w, k < w.heap.size) (h1 : w.cell? ⟨B1, 0, none⟩ = some (.pointer (some ⟨pt, 0, none⟩))) (h2 : w.cell? ⟨B2, 0, none⟩ = some (.string ⟨List.toArray (f)⟩)) (h3 : w.cell? ⟨B3, 0, none⟩ = some (.string ⟨List.toArray (e)⟩)) (i2 : B2 ∉ own w) (i3 : B3 ∉ own w) (hT : TAt w pt t) :
    SeqStopsK Fence.wide n Tryd.prog 64 #[.pointer (some ⟨B1, 0, none⟩), .pointer (some ⟨B2, 0, none⟩), .pointer (some ⟨B3, 0, none⟩)] (fun x : It => #[Value.agg #[.string ⟨List.toArray (x.1)⟩, .string ⟨List.toArray (x.2)⟩]]) (KpO own) (fun ys => ys = wI f e L) (fun pre => pre <+: wI f e L) L.length w := by
  intro l J Jx W hW hJ hJx hY h0
  have ho := hown _ _ (hW.mono hn₀)
  have q2 := keepC hW h2
  have q3 := keepC hW h3
  exact within1_in n hn own n₀ hown l B1 B2 B3 pt t L hR hL f e J Jx W (Nat.le_trans hn₀ hW.size) hJ hJx hY (fun k hk => Nat.lt_of_lt_of_le (hfr k (ho ▸ hk)) hW.size) (keepC hW h1) q2 q3 ⟨cell_lt' q2, by rw [ho]; exact i2⟩ ⟨cell_lt' q3, by rw [ho]; exact i3⟩ (hT.keep hW) h0
theorem swithin_any (pt : Nat) (f e : Bs) (w : World) : Calls Tryd.prog 31 #[.pointer (some ⟨pt, 0, none⟩), .string ⟨List.toArray (f)⟩, .string ⟨List.toArray (e)⟩] w fun e' w' => e' = .returned (.func (.func 64) #[] #[.pointer (some ⟨w.heap.size, 0, none⟩), .pointer (some ⟨(w.heap.size + 1), 0, none⟩), .pointer (some ⟨(w.heap.size + 1 + 1), 0, none⟩)]) ∧
    w' = ((w.alloc (.cells #[.pointer (some ⟨pt, 0, none⟩)] 30)).alloc (.cells #[.string ⟨List.toArray (f)⟩] 9)).alloc (.cells #[.string ⟨List.toArray (e)⟩] 9) := by
  go_enter Tryd.func31, Tryd.ntmps31
  go_wp2_with fail
  go_ret
  exact ⟨rfl, rfl⟩
end Go.Proofs.YtdaihimdkgmboaaDoor

/- Walks of layer 11: how many items a range has. -/
set_option linter.unusedSimpArgs false
set_option linter.unusedVariables false
namespace Go.Proofs.YtdaihimdkgmboaaDoor
open Go.RowKit Go.Shelf Pl

attribute [local go_sem] Oper.semAt_some

theorem KpO.put {own : World → List Nat} {W : World} {l : Nat} {o : Obj} (o' : Obj) (ho : own (W.putObj l o') = own W) (hl : W.heap[l]? = some o) (hc : o.isCells = false) : KpO own W (W.putObj l o') := by
  have hg := grownBy_putObj' W l o'
  refine ⟨hg.size, fun k ob hk hb hn => ?_, fun k hk => .inl (by rw [ho] at hk; exact hk)⟩
  have hne : some k ≠ some l := by
    intro e
    injection e with e
    subst e
    rw [hl] at hk
    injection hk with hk
    subst hk
    rw [hc] at hb; cases hb
  exact (hg.block k (Array.getElem?_eq_some_iff.1 hk).1 hne).trans hk
theorem KpO.grown {own : World → List Nat} {W W' : World} (hs : W.heap.size ≤ W'.heap.size) (h : ∀ k, k < W.heap.size → k ∉ own W → W'.heap[k]? = W.heap[k]?) (ho : ∀ k, k ∈ own W' → k ∈ own W ∨ W.heap.size ≤ k) : KpO own W W' :=
  ⟨hs, fun k o hk _ hn => (h k (Array.getElem?_eq_some_iff.1 hk).1 hn).trans hk, ho⟩
theorem wI_len (f e : Bs) : ∀ l, (wI f e l).length ≤ l.length
  | [] => by simp [wI]
  | x :: r => by
    have := wI_len f e r
    unfold wI
    split
    · simp; omega
    · split <;> simp <;> omega

set_option maxRecDepth 100000 in
set_option maxHeartbeats 8000000 in
theorem count_any (pt : Nat) (t : Tr) (L : List It) (hR : RepT t L) (hL : L.length ≤ 100000) (f e : Bs) (w : World) (hT : TAt w pt t) :
    Calls Tryd.prog 16 #[.pointer (some ⟨pt, 0, none⟩), .string ⟨List.toArray (f)⟩, .string ⟨List.toArray (e)⟩] w fun e' w' => e' = .returned (.int .i64 (((wI f e L).length : Nat))) ∧ Below w.heap.size w w' := by
  refine (callsIn_wide (n := 3)).1 ?_
  refine callsIn_of_wp_marks Tryd.func16 rfl trivial ?_ rfl
  simp only [Tryd.ntmps16, List.size_toArray, List.length_cons, List.length_nil, Nat.reduceAdd, Nat.reduceSub, Array.replicate_succ, Array.replicate_zero, List.push_toArray, List.append_toArray, List.nil_append, List.cons_append]
  gi_wp2_with (refine ⟨trivial, ?_⟩; gi_at_call 31; refine (callsIn_wide.2 (swithin_any pt f e _)).mono ?_; rintro e1 w1 ⟨rfl, rfl⟩)
  have hb0 : Below w.heap.size w ((((w.alloc (.cells #[.int .i64 (0)] 3)).alloc (.cells #[.pointer (some ⟨pt, 0, none⟩)] 30)).alloc (.cells #[.string ⟨List.toArray (f)⟩] 9)).alloc (.cells #[.string ⟨List.toArray (e)⟩] 9)) := Below.allocS (Below.allocS (Below.allocS (Below.allocS (Below.refl _ _) _) _) _) _
  have B0 := (((Blk.new w #[.int .i64 (0)] 3).alloc (.cells #[.pointer (some ⟨pt, 0, none⟩)] 30)).alloc (.cells #[.string ⟨List.toArray (f)⟩] 9)).alloc (.cells #[.string ⟨List.toArray (e)⟩] 9)
  have B1 := ((Blk.new' (w := w.alloc (.cells #[.int .i64 (0)] 3)) (cs := #[.pointer (some ⟨pt, 0, none⟩)]) (t := 30) (n := w.heap.size + 1) (by rw [World.size_alloc])).alloc (.cells #[.string ⟨List.toArray (f)⟩] 9)).alloc (.cells #[.string ⟨List.toArray (e)⟩] 9)
  have B2 := (Blk.new' (w := (w.alloc (.cells #[.int .i64 (0)] 3)).alloc (.cells #[.pointer (some ⟨pt, 0, none⟩)] 30)) (cs := #[.string ⟨List.toArray (f)⟩]) (t := 9) (n := w.heap.size + 1 + 1) (by rw [World.size_alloc, World.size_alloc])).alloc (.cells #[.string ⟨List.toArray (e)⟩] 9)
  have B3 := Blk.new' (w := ((w.alloc (.cells #[.int .i64 (0)] 3)).alloc (.cells #[.pointer (some ⟨pt, 0, none⟩)] 30)).alloc (.cells #[.string ⟨List.toArray (f)⟩] 9)) (cs := #[.string ⟨List.toArray (e)⟩]) (t := 9) (n := w.heap.size + 1 + 1 + 1) (by rw [World.size_alloc, World.size_alloc, World.size_alloc])
  have hsz : ((((w.alloc (.cells #[.int .i64 (0)] 3)).alloc (.cells #[.pointer (some ⟨pt, 0, none⟩)] 30)).alloc (.cells #[.string ⟨List.toArray (f)⟩] 9)).alloc (.cells #[.string ⟨List.toArray (e)⟩] 9)).heap.size = w.heap.size + 4 := by rw [World.size_alloc, World.size_alloc, World.size_alloc, World.size_alloc]
  generalize ((((w.alloc (.cells #[.int .i64 (0)] 3)).alloc (.cells #[.pointer (some ⟨pt, 0, none⟩)] 30)).alloc (.cells #[.string ⟨List.toArray (f)⟩] 9)).alloc (.cells #[.string ⟨List.toArray (e)⟩] 9)) = W0 at *
  have hc0 : W0.cell? ⟨w.heap.size, 0, none⟩ = some (.int .i64 (0)) := B0.cell 0
  have hf0 := B0.froz 0
  have h1 : W0.cell? ⟨w.heap.size + 1, 0, none⟩ = some (.pointer (some ⟨pt, 0, none⟩)) := B1.cell 0
  have h2 : W0.cell? ⟨w.heap.size + 1 + 1, 0, none⟩ = some (.string ⟨List.toArray (f)⟩) := B2.cell 0
  have h3 : W0.cell? ⟨w.heap.size + 1 + 1 + 1, 0, none⟩ = some (.string ⟨List.toArray (e)⟩) := B3.cell 0
  refine wpIn_rangeFunc_ownG rfl (by omega) (gf := 64) (lb := #[.pointer (some ⟨(w.heap.size + 1), 0, none⟩), .pointer (some ⟨(w.heap.size + 1 + 1), 0, none⟩), .pointer (some ⟨(w.heap.size + 1 + 1 + 1), 0, none⟩)]) rfl trivial (enters_of Tryd.func64 (by kernel_rfl) rfl)
    (within_stops 2 (by omega) (fun _ => [w.heap.size]) W0.heap.size (fun _ _ _ => rfl) (w.heap.size + 1) (w.heap.size + 1 + 1) (w.heap.size + 1 + 1 + 1) pt t L hR hL f e W0 (Nat.le_refl _) (by intro k hk; simp at hk; omega) h1 h2 h3 (by simp <;> omega) (by simp <;> omega) (hT.keep hb0))
    KpO.trans (fun W l o o' hl ho hc _ => KpO.put o' rfl ho hc) (Below.refl _ _) (fun _ => rfl)
    (fun pre W => (W.cell? ⟨w.heap.size, 0, none⟩ = some (.int .i64 ((pre.length : Nat))) ∧ W.frozen? ⟨w.heap.size, 0, none⟩ = false) ∧ Below w.heap.size w W)
    (fun _ _ _ => False)
    (OwnFrom.and (Own.from (fun s A B row hs hg hr => ⟨cell_kept hs.1 hg hr, (frozen_kept hs.1 hg hr).trans hs.2⟩) _) (ownFrom_below (Nat.le_refl _) (by omega)))
    (fun _ _ _ _ _ hs _ _ => hs)
    ⟨⟨hc0, hf0⟩, hb0⟩
    (fun x => { tmps := #[.pointer (some ⟨pt, 0, none⟩), .string ⟨List.toArray (f)⟩, .string ⟨List.toArray (e)⟩, undef, undef, undef, .int .i64 (0), .pointer (some ⟨w.heap.size, 0, none⟩), .pointer (some ⟨pt, 0, none⟩), .string ⟨List.toArray (f)⟩, .string ⟨List.toArray (e)⟩, .func (.func 64) #[] #[.pointer (some ⟨(w.heap.size + 1), 0, none⟩), .pointer (some ⟨(w.heap.size + 1 + 1), 0, none⟩), .pointer (some ⟨(w.heap.size + 1 + 1 + 1), 0, none⟩)], .agg #[.string ⟨List.toArray (x.1)⟩, .string ⟨List.toArray (x.2)⟩], undef, undef, undef], defers := [] }) ?assign ?body ?done ?stop
  case assign =>
    intro l x W K hK
    gi_wp2
    simpa using hK
  case body =>
    rintro l pre x W ⟨⟨hc, hf⟩, hB⟩ hlen
    have hw1 : IntKind.i64.wrap ((pre.length : Int) + 1) = (pre.length : Int) + 1 := by rw [IntKind.wrap_i64]; omega
    have hpl : (pre.length : Int) ≤ 100000 := by omega
    gi_wp2
    refine ⟨(KeepsOthers.setCell _ _ _).from _, KpO.grown ?_ ?_ ?_, ⟨?_, ?_⟩, hB.setCell (p := ⟨w.heap.size, 0, none⟩) (Nat.le_refl _) _⟩
    · simp [World.setCell]
    · intro k hk hn
      exact Below.heap_setCell _ _ _ _ (by simpa using hn)
    · exact fun k hk => .inl hk
    · rw [List.length_append]
      exact World.cell?_setCell_same' _ _ _ (by rw [hc]; rfl)
    · rw [World.frozen?_setCell]; exact hf
  case done =>
    rintro D ys W hD rfl ⟨⟨hc, _⟩, hB⟩ hK
    gi_wp2
    refine ⟨by simp, .inl ⟨_, _, rfl, run_takeDeferred hK, ?_⟩⟩
    exact ⟨_, results_tmp rfl _ _ _, rfl, hB.trans (belowK_b (w := w) (Nat.le_refl _) W D _ _ (by omega) hK rfl rfl)⟩
  case stop =>
    rintro D c pre W _ _ h _
    exact h.elim
end Go.Proofs.YtdaihimdkgmboaaDoor

/- Walks of layer 11: the least key above a key; the document's. -/
set_option linter.unusedSimpArgs false
set_option linter.unusedVariables false
namespace Go.Proofs.YtdaihimdkgmboaaDoor
open Go.RowKit Pl

theorem u8_next (c : UInt8) (h : c ≠ 255) : UInt8.ofNat ((c.toNat : Int) + 1).toNat = c + 1 := by
  have h1 := c.toNat_lt
  have h2 : c.toNat ≠ 255 := fun e => h (UInt8.toNat_inj.1 e)
  apply UInt8.toNat_inj.1
  rw [succ_nat c h, UInt8.toNat_ofNat']
  omega
theorem behP_eq (k : Bs) (h : k.length = 8) : behP k = (behF k).getD [] := by
  unfold behP
  rw [if_neg (by omega), if_neg (by omega)]
theorem behF_step (k : Bs) (m : Nat) (hm : m < k.length) : behF (k.take (m + 1)) = if k[m] = 255 then behF (k.take m) else some (k.take m ++ [k[m] + 1]) := by
  rw [List.take_succ_eq_append_getElem hm, behF_snoc]

set_option maxRecDepth 100000 in
set_option maxHeartbeats 4000000 in
theorem sbehind_any (k : Bs) (w : World) :
    Calls Tryd.prog 9 #[.string ⟨List.toArray (k)⟩] w fun e w' => e = .returned (.string ⟨List.toArray (behP k)⟩) ∧ Below w.heap.size w w' := by
  by_cases h1 : 8 < k.length
  · rw [show behP k = [] from by unfold behP; rw [if_pos h1]]
    have d : decide ((8 : Int) < (k.length : Int)) = true := by simp only [decide_eq_true_eq]; omega
    clear h1
    go_enter Tryd.func9, Tryd.ntmps9
    go_wp2_with fail
    go_ret
    exact ⟨rfl, Below.refl _ _⟩
  · have d : decide ((8 : Int) < (k.length : Int)) = false := by simp only [decide_eq_false_iff_not]; omega
    by_cases h2 : k.length < 8
    · rw [show behP k = k ++ [0] from by unfold behP; rw [if_neg h1, if_pos h2]]
      have d2 : decide ((k.length : Int) < 8) = true := by simp only [decide_eq_true_eq]; omega
      have hnl : ¬ 9223372036854775807 < k.length + 1 := by omega
      clear h1 h2
      go_enter Tryd.func9, Tryd.ntmps9
      go_wp2_with fail
      go_ret
      exact ⟨rfl, Below.refl _ _⟩
    · have d2 : decide ((k.length : Int) < 8) = false := by simp only [decide_eq_false_iff_not]; omega
      have hk : k.length = 8 := by omega
      rw [behP_eq k hk]
      generalize hz : behF k = z
      have HZ := Lib.hid hz
      have hk8 : k.length ≤ 8 := by omega
      clear hz h1 h2 hk
      go_enter Tryd.func9, Tryd.ntmps9
      go_wp2_with fail
      clear d d2
      go_loopw [3] (fun s3 wr => ∃ n : Nat, s3 = .int .i64 (n) ∧ n ≤ k.length ∧ Hid (behF (k.take n) = z) ∧ wr = w) (fun s3 _ => (intOf s3).toNat)
      case atStart => exact ⟨k.length, rfl, Nat.le_refl _, Lib.hid (by rw [List.take_length]; exact HZ.out), rfl⟩
      case round =>
        obtain ⟨n, rfl, hn, HN, rfl⟩ := hrel
        clear HZ
        rcases n with _ | m
        · have HE : Hid (z = none) := Lib.hid (by rw [← HN.out]; rfl)
          go_wp2_with fail
          go_ret
          exact ⟨by rw [HE.out]; rfl, Below.refl _ _⟩
        · have hm : m < k.length := by omega
          have hcl := k[m].toNat_lt
          have hst := behF_step k m hm
          have d1 : (0 : Int) < (m : Int) + 1 := by omega
          have i0 : 0 ≤ (m : Int) ∧ (m : Int) < (k.length : Int) := by omega
          have hw1 : IntKind.i64.wrap ((m : Int) + 1 - 1) = (m : Int) := by rw [IntKind.wrap_i64]; omega
          have hw2 : wrap64 ((m : Int) + 1 - 1) = (m : Int) := by unfold wrap64; omega
          by_cases hc : k[m] = 255
          · rw [if_pos hc] at hst
            have HS := Lib.hid hst
            have e1 : ((k[m].toNat : Int) == 255) = true := by rw [hc]; rfl
            clear hst hc
            go_wp2_with fail
            exact ⟨⟨m, by first | rfl | simp, by omega, Lib.hid (by rw [← HS.out]; exact HN.out), trivial⟩, by simp [intOf]⟩
          · rw [if_neg hc] at hst
            have hc2 : k[m].toNat ≠ 255 := fun e => hc (UInt8.toNat_inj.1 e)
            have e1 : ((k[m].toNat : Int) == 255) = false := by rw [beq_eq_false_iff_ne]; omega
            have HE : Hid (z = some (k.take m ++ [k[m] + 1])) := Lib.hid (by rw [← HN.out]; exact hst)
            have HU := Lib.hid (u8_next k[m] hc)
            have hw3 : IntKind.u8.wrap ((k[m].toNat : Int) + 1) = (k[m].toNat : Int) + 1 := by rw [IntKind.wrap_u8]; omega
            have hnl : ¬ 9223372036854775807 < m + 1 := by omega
            clear hst hc
            go_wp2_with fail
            go_region
            all_goals go_wp2_with fail
            all_goals go_ret
            all_goals exact ⟨by rw [HE.out]; rfl, (Below.allocS (Below.refl _ _) _).drew⟩
set_option maxRecDepth 100000 in
set_option maxHeartbeats 4000000 in
theorem rbehind_any (k : Bs) (w : World) :
    Calls Tryd.prog 12 #[.string ⟨List.toArray (k)⟩] w fun e w' => e = .returned (.string ⟨List.toArray (behP k)⟩) ∧ Below w.heap.size w w' := by
  by_cases h1 : 8 < k.length
  · rw [show behP k = [] from by unfold behP; rw [if_pos h1]]
    have d : decide ((8 : Int) < (k.length : Int)) = true := by simp only [decide_eq_true_eq]; omega
    clear h1
    go_enter Tryd.func12, Tryd.ntmps12
    go_wp2_with fail
    go_ret
    exact ⟨rfl, Below.refl _ _⟩
  · have d : decide ((8 : Int) < (k.length : Int)) = false := by simp only [decide_eq_false_iff_not]; omega
    by_cases h2 : k.length < 8
    · rw [show behP k = k ++ [0] from by unfold behP; rw [if_neg h1, if_pos h2]]
      have d2 : decide ((k.length : Int) < 8) = true := by simp only [decide_eq_true_eq]; omega
      have hnl : ¬ 9223372036854775807 < k.length + 1 := by omega
      clear h1 h2
      go_enter Tryd.func12, Tryd.ntmps12
      go_wp2_with fail
      go_ret
      exact ⟨rfl, Below.refl _ _⟩
    · have d2 : decide ((k.length : Int) < 8) = false := by simp only [decide_eq_false_iff_not]; omega
      have hk : k.length = 8 := by omega
      rw [behP_eq k hk]
      generalize hz : behF k = z
      have HZ := Lib.hid hz
      have hk8 : k.length ≤ 8 := by omega
      clear hz h1 h2 hk
      go_enter Tryd.func12, Tryd.ntmps12
      go_wp2_with fail
      clear d d2
      go_loopw [3] (fun s3 wr => ∃ n : Nat, s3 = .int .i64 ((n : Int) - 1) ∧ n ≤ k.length ∧ Hid (behF (k.take n) = z) ∧ wr = w) (fun s3 _ => (intOf s3 + 1).toNat)
      case atStart => exact ⟨k.length, rfl, Nat.le_refl _, Lib.hid (by rw [List.take_length]; exact HZ.out), rfl⟩
      case round =>
        obtain ⟨n, rfl, hn, HN, rfl⟩ := hrel
        clear HZ
        rcases n with _ | m
        · have HE : Hid (z = none) := Lib.hid (by rw [← HN.out]; rfl)
          go_wp2_with fail
          go_ret
          exact ⟨by rw [HE.out]; rfl, Below.refl _ _⟩
        · rw [show ((m + 1 : Nat) : Int) - 1 = (m : Int) from by omega]
          have hm : m < k.length := by omega
          have hcl := k[m].toNat_lt
          have hst := behF_step k m hm
          have d1 : (0 : Int) ≤ (m : Int) := by omega
          have i0 : 0 ≤ (m : Int) ∧ (m : Int) < (k.length : Int) := by omega
          have hw1 : IntKind.i64.wrap ((m : Int) - 1) = (m : Int) - 1 := by rw [IntKind.wrap_i64]; omega
          by_cases hc : k[m] = 255
          · rw [if_pos hc] at hst
            have HS := Lib.hid hst
            have e1 : decide ((k[m].toNat : Int) < 255) = false := by rw [hc]; rfl
            clear hst hc
            go_wp2_with fail
            exact ⟨⟨m, by first | rfl | simp, by omega, Lib.hid (by rw [← HS.out]; exact HN.out), trivial⟩, by simp [intOf] <;> omega⟩
          · rw [if_neg hc] at hst
            have hc2 : k[m].toNat ≠ 255 := fun e => hc (UInt8.toNat_inj.1 e)
            have e1 : decide ((k[m].toNat : Int) < 255) = true := by rw [decide_eq_true_eq]; omega
            have HE : Hid (z = some (k.take m ++ [k[m] + 1])) := Lib.hid (by rw [← HN.out]; exact hst)
            have HU := Lib.hid (u8_next k[m] hc)
            have hw3 : IntKind.u8.wrap ((k[m].toNat : Int) + 1) = (k[m].toNat : Int) + 1 := by rw [IntKind.wrap_u8]; omega
            have hnl : ¬ 9223372036854775807 < m + 1 := by omega
            clear hst hc
            go_wp2_with fail
            go_region
            all_goals go_wp2_with fail
            all_goals go_ret
            all_goals exact ⟨by rw [HE.out]; rfl, (Below.allocS (Below.refl _ _) _).drew⟩
end Go.Proofs.YtdaihimdkgmboaaDoor
