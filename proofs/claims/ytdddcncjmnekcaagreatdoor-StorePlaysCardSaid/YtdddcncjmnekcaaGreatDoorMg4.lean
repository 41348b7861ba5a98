/- Code, Reader, Num. -/
import Derived.Test.YtdddcncjmnekcaaGreatDoorRows
import Derived.Test.YtdddcncjmnekcaaGreatDoorMg1
import Derived.Test.YtdddcncjmnekcaaGreatDoorMg2
set_option linter.unnecessarySimpa false

/- Walks of layer 2: the reader. -/
set_option linter.unusedSimpArgs false
set_option linter.unusedVariables false
namespace Go.Proofs.YtdddcncjmnekcaaGreatDoor
open Go.RowKit Pl

set_option maxHeartbeats 400000 in
theorem take_yes (l : Bs) (at_ n : Nat) (code : Int) (p : Nat) (w : World) (hl : l.length ≤ 9223372036854775807) (hn : at_ + n ≤ l.length)
    (B : Blk w p #[.string ⟨List.toArray (l)⟩, .int .i64 (at_), .int .i64 (code)]) :
    Calls Tryz.prog 78 #[.pointer (some ⟨p, 0, none⟩), .int .i64 (n)] w fun e w' => e = .returned (.tuple #[.string ⟨List.toArray ((l.drop at_).take n)⟩, .bool true]) ∧ Blk w' p #[.string ⟨List.toArray (l)⟩, .int .i64 ((at_ + n : Nat)), .int .i64 (code)] ∧ Mod [p] w w' := by
  obtain ⟨b1, b2, b3⟩ := id B
  go_enter Tryz.func78, Tryz.ntmps78
  go_wp2_with fail
  go_quiet (fail)
  go_wp2_with fail
  go_quiet (fail)
  go_wp2_with fail
  go_ret2
  refine ⟨ret_two (by simp) rfl, ?_, ?_⟩
  · exact (B.drewN _).set 1 _
  · exact ((Mod.refl _ _).drewN _).setCell (.inl (by simp)) _

theorem take_no (l : Bs) (at_ n : Nat) (code : Int) (p : Nat) (w : World) (hl : l.length ≤ 9223372036854775807) (ha : at_ ≤ l.length) (hn : l.length < at_ + n)
    (B : Blk w p #[.string ⟨List.toArray (l)⟩, .int .i64 (at_), .int .i64 (code)]) :
    Calls Tryz.prog 78 #[.pointer (some ⟨p, 0, none⟩), .int .i64 (n)] w fun e w' => e = .returned (.tuple #[.string ⟨List.toArray ([])⟩, .bool false]) ∧ Blk w' p #[.string ⟨List.toArray (l)⟩, .int .i64 (at_), .int .i64 (code)] ∧ Mod [p] w w' := by
  obtain ⟨b1, b2, b3⟩ := id B
  have hn' : (l.length : Int) - at_ < n := by omega
  go_enter Tryz.func78, Tryz.ntmps78
  go_wp2_with fail
  go_quiet (fail)
  go_wp2_with fail
  go_ret2
  exact ⟨rfl, B.drewN _, (Mod.refl _ _).drewN _⟩

theorem refused_yes (l : Bs) (at_ frm : Nat) (e : Int) (p : Nat) (w : World) (B : Blk w p #[.string ⟨List.toArray (l)⟩, .int .i64 (at_), .int .i64 (0)]) :
    Calls Tryz.prog 77 #[.pointer (some ⟨p, 0, none⟩), .int .i64 (frm), .int .i64 (e)] w fun x w' => x = .returned (.tuple #[]) ∧ Blk w' p #[.string ⟨List.toArray (l)⟩, .int .i64 (frm), .int .i64 (e)] ∧ Mod [p] w w' := by
  obtain ⟨b1, b2, b3⟩ := id B
  go_enter Tryz.func77, Tryz.ntmps77
  go_wp2_with fail
  go_end0
  exact ⟨rfl, (B.set 1 _).set 2 _, ((Mod.refl _ _).setCell (.inl (by simp)) _).setCell (.inl (by simp)) _⟩

theorem refused_no (l : Bs) (at_ frm : Nat) (c e : Int) (hc : c ≠ 0) (p : Nat) (w : World) (B : Blk w p #[.string ⟨List.toArray (l)⟩, .int .i64 (at_), .int .i64 (c)]) :
    Calls Tryz.prog 77 #[.pointer (some ⟨p, 0, none⟩), .int .i64 (frm), .int .i64 (e)] w fun x w' => x = .returned (.tuple #[]) ∧ w = w' := by
  obtain ⟨b1, b2, b3⟩ := id B
  have hc1 : (c == 0) = false := by simpa using hc
  have hc2 : (c != 0) = true := by simpa using hc
  go_enter Tryz.func77, Tryz.ntmps77
  go_wp2_with fail
  go_end0
  exact ⟨rfl, rfl⟩

theorem left_any (l : Bs) (at_ : Nat) (code : Int) (p : Nat) (w : World) (hl : l.length ≤ 9223372036854775807) (ha : at_ ≤ l.length) (B : Blk w p #[.string ⟨List.toArray (l)⟩, .int .i64 (at_), .int .i64 (code)]) :
    Calls Tryz.prog 81 #[.pointer (some ⟨p, 0, none⟩)] w fun e w' => e = .returned (.int .i64 ((l.length - at_ : Int))) ∧ ∃ n, w' = w.drewN n := by
  obtain ⟨b1, b2, b3⟩ := id B
  go_enter Tryz.func81, Tryz.ntmps81
  go_wp2_with fail
  go_quiet (fail)
  go_wp2_with fail
  go_ret
  exact ⟨rfl, _, rfl⟩

theorem readNew (l : Bs) (w : World) :
    Calls Tryz.prog 58 #[.string ⟨List.toArray (l)⟩] w fun e w' => e = .returned (.pointer (some ⟨w.heap.size, 0, none⟩)) ∧ w' = w.alloc (.cells #[.string ⟨List.toArray (l)⟩, .int .i64 (0), .int .i64 (0)] 123) := by
  go_enter Tryz.func58, Tryz.ntmps58
  go_wp2_with fail
  go_ret
  exact ⟨rfl, rfl⟩

theorem take_cons {s : Bs} {k : UInt8} {r : Bs} (h : s = k :: r) : Pl.take s = (if 8 < k.toNat then (0, [], 3)
    else if r.length < k.toNat then (0, [], 20)
    else if (0 < k.toNat ∧ r.headD 0 = 0) ∨ (k.toNat = 8 ∧ 127 < (r.headD 0).toNat) then (0, [], 3)
    else (be (r.take k.toNat), r.drop k.toNat, 0)) := by subst h; rfl

/-- What 'number' leaves: the reader's place is behind the number, if there is one. -/
def NumAt (p : Nat) (l : Bs) (at_ : Nat) (w' : World) : Prop :=
  ∃ a : Nat, a ≤ l.length ∧ at_ ≤ a ∧ Blk w' p #[.string ⟨List.toArray (l)⟩, .int .i64 (a), .int .i64 (0)] ∧ ((Pl.take (l.drop at_)).2.2 = 0 → l.drop a = (Pl.take (l.drop at_)).2.1)

theorem number_empty (l : Bs) (at_ : Nat) (p : Nat) (w : World) (hl : l.length ≤ 9223372036854775807) (ha : at_ = l.length) (B : Blk w p #[.string ⟨List.toArray (l)⟩, .int .i64 (at_), .int .i64 (0)]) :
    Calls Tryz.prog 110 #[.pointer (some ⟨p, 0, none⟩)] w fun e w' => e = .returned (.tuple #[.int .i64 (0), .int .i64 (20)]) ∧ Blk w' p #[.string ⟨List.toArray (l)⟩, .int .i64 (at_), .int .i64 (0)] ∧ Mod [p] w w' := by
  obtain ⟨b1, b2, b3⟩ := id B
  go_enter Tryz.func110, Tryz.ntmps110
  go_wp2_with fail
  refine (take_no l at_ 1 0 p _ hl (by omega) (by omega) B).mono ?_
  rintro e w1 ⟨rfl, B1, m1⟩
  clear b1 b2 b3
  go_wp2_with fail
  go_ret2
  exact ⟨rfl, B1, m1⟩

set_option maxRecDepth 100000 in
set_option maxHeartbeats 1000000 in
theorem number_some (l : Bs) (at_ : Nat) (k : UInt8) (r : Bs) (p : Nat) (w : World) (hl : l.length ≤ 9223372036854775807) (hs : l.drop at_ = k :: r) (B : Blk w p #[.string ⟨List.toArray (l)⟩, .int .i64 (at_), .int .i64 (0)]) :
    Calls Tryz.prog 110 #[.pointer (some ⟨p, 0, none⟩)] w fun e w' => e = .returned (.tuple #[.int .i64 ((Pl.take (l.drop at_)).1), .int .i64 ((Pl.take (l.drop at_)).2.2)]) ∧ NumAt p l at_ w' ∧ Mod [p] w w' := by
  have hlen : at_ + 1 + r.length = l.length := by
    have := congrArg List.length hs
    simp at this
    omega
  have htake : (l.drop at_).take 1 = [k] := by rw [hs]; rfl
  have HT := Lib.hid htake
  have HC := Lib.hid (take_cons hs)
  have HS := Lib.hid hs
  clear htake hs
  have hk := k.toNat_lt
  obtain ⟨b1, b2, b3⟩ := id B
  go_enter Tryz.func110, Tryz.ntmps110
  go_wp2_with fail
  refine (take_yes l at_ 1 0 p _ hl (by omega) B).mono ?_
  rintro e w1 ⟨rfl, B1, m1⟩
  rw [HT.out]
  clear b1 b2 b3
  by_cases h8 : 8 < k.toNat
  · have h8' : (8 : Int) < (k.toNat : Int) := by omega
    go_wp2_with fail
    go_ret2
    unfold NumAt
    rw [show Pl.take (l.drop at_) = (0, [], 3) from by rw [HC.out, if_pos h8]]
    exact ⟨rfl, ⟨at_ + 1, by omega, by omega, B1, fun h => by cases h⟩, m1⟩
  have h8' : ¬ (8 : Int) < (k.toNat : Int) := by omega
  by_cases hr : r.length < k.toNat
  · go_wp2_with fail
    refine (take_no l (at_ + 1) k.toNat 0 p _ hl (by omega) (by omega) B1).mono ?_
    rintro e w2 ⟨rfl, B2, m2⟩
    go_wp2_with fail
    go_ret2
    unfold NumAt
    rw [show Pl.take (l.drop at_) = (0, [], 20) from by rw [HC.out, if_neg h8, if_pos hr]]
    exact ⟨rfl, ⟨at_ + 1, by omega, by omega, B2, fun h => by cases h⟩, m1.trans m2⟩
  have hb : (l.drop (at_ + 1)).take k.toNat = r.take k.toNat := by
    rw [← List.drop_drop, HS.out]; rfl
  have HB := Lib.hid hb
  clear hb
  go_wp2_with fail
  refine (take_yes l (at_ + 1) k.toNat 0 p _ hl (by omega) B1).mono ?_
  rintro e w2 ⟨rfl, B2, m2⟩
  rw [HB.out]
  have hm := m1.trans m2
  clear m1 m2 B1 B
  have hdrop : l.drop (at_ + 1 + k.toNat) = r.drop k.toNat := by
    rw [← List.drop_drop, ← List.drop_drop, HS.out]; rfl
  have HD := Lib.hid hdrop
  clear hdrop
  have hbl : (r.take k.toNat).length = k.toNat := by simp; omega
  have hhd : 0 < k.toNat → (r.take k.toNat).headD 0 = r.headD 0 := by
    intro h
    cases r with
    | nil => simp
    | cons a r =>
      obtain ⟨n, hn⟩ : ∃ n, k.toNat = n + 1 := ⟨k.toNat - 1, by omega⟩
      rw [hn]; rfl
  have HH := Lib.hid hhd
  clear hhd
  generalize hbb : r.take k.toNat = b at *
  have HBB := Lib.hid hbb
  clear hbb
  generalize k.toNat = kn at *
  subst hbl
  by_cases h0 : b.length = 0
  · have hb0 : b = [] := List.length_eq_zero_iff.1 h0
    subst hb0
    go_wp2_with fail
    go_loop [7, 58] (fun s7 s58 => s7 = .int .i64 0 ∧ s58 = .int .i64 0) (fun _ _ => 0)
    case atStart => exact ⟨rfl, rfl⟩
    case round =>
      obtain ⟨rfl, rfl⟩ := hrel
      go_wp2_with fail
      go_ret2
      unfold NumAt
      rw [show Pl.take (l.drop at_) = (0, r, 0) from by rw [HC.out, if_neg h8, if_neg hr, if_neg (by simp)]; rfl]
      exact ⟨rfl, ⟨at_ + 1, by omega, by omega, B2, fun _ => HD.out⟩, hm⟩
  have HH' := HH.out (by omega)
  obtain ⟨c, b', hcb⟩ : ∃ c b', b = c :: b' := by
    cases b with
    | nil => exact absurd rfl h0
    | cons c b' => exact ⟨c, b', rfl⟩
  have hcr : r.headD 0 = c := by rw [← HH', hcb]; rfl
  have HCR := Lib.hid hcr
  clear hcr HH' HH
  by_cases hc0 : c = 0
  · subst hcb
    have hc1 : (c.toNat : Int) = 0 := by rw [hc0]; rfl
    have hbl : 0 < b'.length + 1 := by omega
    have hl0 : (0 : Int) < (b'.length : Int) + 1 := by omega
    have hcb : ((c.toNat : Int) == 0) = true := by simpa using hc1
    have HX := Lib.hid hc1
    clear hc1
    go_wp2_with fail
    go_ret2
    unfold NumAt
    rw [show Pl.take (l.drop at_) = (0, [], 3) from by rw [HC.out, if_neg h8, if_neg hr, if_pos (.inl ⟨by omega, by rw [HCR.out, hc0]⟩)]]
    exact ⟨rfl, ⟨at_ + 1 + (c :: b').length, by omega, by omega, B2, fun h => by cases h⟩, hm⟩
  have hcn : ¬ (c.toNat : Int) = 0 := by
    intro h
    apply hc0
    apply UInt8.toNat_inj.1
    simpa using h
  have hcb0 : ((c.toNat : Int) == 0) = false := by simpa using hcn
  have HX := Lib.hid hcn
  clear hcn
  have hb0 : (0 : Int) < (b.length : Int) := by omega
  have hlt0 : 0 < b.length := by omega
  have hget : b[0] = c := by subst hcb; rfl
  have hhd0 : b.headD 0 = c := by subst hcb; rfl
  have HHD := Lib.hid hhd0
  clear hhd0 hcb
  by_cases h88 : b.length = 8 ∧ 127 < c.toNat
  · have h8b : ((b.length : Int) == 8) = true := by simp; omega
    have hcg : (128 : Int) ≤ (c.toNat : Int) := by omega
    have hcd : decide ((128 : Int) ≤ (c.toNat : Int)) = true := by simpa using hcg
    have HL := Lib.hid h88.1
    go_wp2_with fail
    go_ret2
    unfold NumAt
    rw [show Pl.take (l.drop at_) = (0, [], 3) from by rw [HC.out, if_neg h8, if_neg hr, if_pos (.inr ⟨h88.1, by rw [HCR.out]; exact h88.2⟩)]]
    exact ⟨rfl, ⟨at_ + 1 + b.length, by omega, by omega, B2, fun h => by cases h⟩, hm⟩
  have hbound := be_bound b (by omega) (fun h => by
    rw [HHD.out]
    omega)
  have HBD := Lib.hid hbound
  clear hbound
  have hfin : Pl.take (l.drop at_) = (be b, r.drop b.length, 0) := by
    rw [HC.out, if_neg h8, if_neg hr, if_neg (by
      rintro (⟨_, h⟩ | ⟨h1, h2⟩)
      · exact hc0 (by rw [← HCR.out]; exact h)
      · rw [HCR.out] at h2; exact h88 ⟨h1, h2⟩)]
  have HF := Lib.hid hfin
  clear hfin
  have hcl := c.toNat_lt
  by_cases h8b : b.length = 8
  · have h8b' : ((b.length : Int) == 8) = true := by simp; omega
    have hcg : ¬ (128 : Int) ≤ (c.toNat : Int) := by omega
    have hcd : decide ((128 : Int) ≤ (c.toNat : Int)) = false := by simpa using hcg
    have H8 := Lib.hid h8b
    clear h8b h88
    go_wp2_with fail
    go_loop [7, 58] (fun s7 s58 => ∃ i : Nat, i ≤ b.length ∧ s58 = .int .i64 i ∧ s7 = .int .i64 (be (b.take i))) (fun _ s58 => b.length - (intOf s58).toNat)
    case atStart => exact ⟨0, by omega, rfl, by simp [be]⟩
    case round =>
      obtain ⟨i, hi, rfl, rfl⟩ := hrel
      by_cases hlt : i < b.length
      · have hbd := HBD.out i hlt
        have hsn : be (b.take (i + 1)) = be (b.take i) * 256 + b[i].toNat := by
          rw [List.take_succ_eq_append_getElem hlt, be_snoc]
        have HSN := Lib.hid hsn
        clear hsn
        have hbi := b[i].toNat_lt
        generalize be (b.take i) = m at *
        go_wp2_with fail
        exact ⟨⟨i + 1, by omega, by go_num, by rw [HSN.out, i64_or_byte _ _ hbd hbi]⟩, by simp [intOf]; omega⟩
      · go_wp2_with fail
        go_ret2
        unfold NumAt
        rw [HF.out]
        have hib : i = b.length := by omega
        subst hib
        exact ⟨ret_two (by simp) rfl, ⟨at_ + 1 + b.length, by omega, by omega, B2, fun _ => HD.out⟩, hm⟩
  · have h8b' : ((b.length : Int) == 8) = false := by simp; omega
    go_wp2_with fail
    go_loop [7, 58] (fun s7 s58 => ∃ i : Nat, i ≤ b.length ∧ s58 = .int .i64 i ∧ s7 = .int .i64 (be (b.take i))) (fun _ s58 => b.length - (intOf s58).toNat)
    case atStart => exact ⟨0, by omega, rfl, by simp [be]⟩
    case round =>
      obtain ⟨i, hi, rfl, rfl⟩ := hrel
      by_cases hlt : i < b.length
      · have hbd := HBD.out i hlt
        have hsn : be (b.take (i + 1)) = be (b.take i) * 256 + b[i].toNat := by
          rw [List.take_succ_eq_append_getElem hlt, be_snoc]
        have HSN := Lib.hid hsn
        clear hsn
        have hbi := b[i].toNat_lt
        generalize be (b.take i) = m at *
        go_wp2_with fail
        exact ⟨⟨i + 1, by omega, by go_num, by rw [HSN.out, i64_or_byte _ _ hbd hbi]⟩, by simp [intOf]; omega⟩
      · go_wp2_with fail
        go_ret2
        unfold NumAt
        rw [HF.out]
        have hib : i = b.length := by omega
        subst hib
        exact ⟨ret_two (by simp) rfl, ⟨at_ + 1 + b.length, by omega, by omega, B2, fun _ => HD.out⟩, hm⟩
end Go.Proofs.YtdddcncjmnekcaaGreatDoor

/- Walks of layer 2: the reader's methods, by what is left and the code. -/
set_option linter.unusedSimpArgs false
set_option linter.unusedVariables false
namespace Go.Proofs.YtdddcncjmnekcaaGreatDoor
open Go.RowKit Pl

/-- A reader at block p: what is left, and the code. -/
def Rdr (w : World) (p : Nat) (s : Bs) (c : Int) : Prop :=
  ∃ (l : Bs) (at_ : Nat), l.length ≤ 9223372036854775807 ∧ at_ ≤ l.length ∧ l.drop at_ = s ∧ Blk w p #[.string ⟨List.toArray (l)⟩, .int .i64 (at_), .int .i64 (c)]
theorem Rdr.mod {w w' : World} {p : Nat} {s : Bs} {c : Int} (h : Rdr w p s c) {l : List Nat} (hm : Mod l w w') (hb : p ∉ l) : Rdr w' p s c := by
  obtain ⟨l, a, h1, h2, h3, B⟩ := h
  exact ⟨l, a, h1, h2, h3, B.mod hm hb⟩
theorem Rdr.len {w : World} {p : Nat} {s : Bs} {c : Int} (h : Rdr w p s c) : s.length ≤ 9223372036854775807 := by
  obtain ⟨l, a, h1, h2, rfl, _⟩ := h
  simp; omega
theorem Rdr.lt {w : World} {p : Nat} {s : Bs} {c : Int} (h : Rdr w p s c) : p < w.heap.size := by
  obtain ⟨l, a, _, _, _, B⟩ := h
  exact B.lt
theorem Rdr.new {w : World} {s : Bs} {t : TypeId} (h : s.length ≤ 9223372036854775807) : Rdr (w.alloc (.cells #[.string ⟨List.toArray (s)⟩, .int .i64 (0), .int .i64 (0)] t)) w.heap.size s 0 :=
  ⟨s, 0, h, by omega, rfl, Blk.new _ _ _⟩
theorem Rdr.alloc {w : World} {p : Nat} {s : Bs} {c : Int} (h : Rdr w p s c) (o : Obj) : Rdr (w.alloc o) p s c := by
  obtain ⟨l, a, h1, h2, h3, B⟩ := h
  exact ⟨l, a, h1, h2, h3, B.alloc o⟩
theorem Rdr.other {w : World} {p : Nat} {s : Bs} {c : Int} (h : Rdr w p s c) {x : Addr} (hx : x.block ≠ p) (v : Value) : Rdr (w.setCell x v) p s c := by
  obtain ⟨l, a, h1, h2, h3, B⟩ := h
  exact ⟨l, a, h1, h2, h3, B.other hx v⟩
theorem Rdr.drew {w : World} {p : Nat} {s : Bs} {c : Int} (h : Rdr w p s c) : Rdr w.drew p s c := by
  obtain ⟨l, a, h1, h2, h3, B⟩ := h
  exact ⟨l, a, h1, h2, h3, B.drew⟩
theorem Rdr.drewN {w : World} {p : Nat} {s : Bs} {c : Int} (h : Rdr w p s c) (n : Nat) : Rdr (w.drewN n) p s c := by
  obtain ⟨l, a, h1, h2, h3, B⟩ := h
  exact ⟨l, a, h1, h2, h3, B.drewN n⟩

theorem bytes_any (s : Bs) (c n : Int) (p : Nat) (w : World) (hn : n ≤ 9223372036854775807) (R : Rdr w p s c) :
    Calls Tryz.prog 59 #[.pointer (some ⟨p, 0, none⟩), .int .i64 (n)] w fun e w' => e = .returned (.string ⟨List.toArray ((mBytes s c n).1)⟩) ∧ Rdr w' p (mBytes s c n).2.1 (mBytes s c n).2.2 ∧ Mod [p] w w' := by
  obtain ⟨l, a, h1, h2, rfl, B⟩ := id R
  obtain ⟨b1, b2, b3⟩ := id B
  by_cases hc : c = 0
  · subst hc
    by_cases hn0 : n < 0
    · rw [show mBytes (l.drop a) 0 n = ([], l.drop a, 1) from by simp [mBytes, hn0]]
      go_enter Tryz.func59, Tryz.ntmps59
      go_wp2_with fail
      refine (refused_yes l a a 1 p _ B).mono ?_
      rintro e w1 ⟨rfl, B1, m1⟩
      clear b1 b2 b3
      go_wp2_with fail
      go_ret
      exact ⟨rfl, ⟨l, a, h1, h2, rfl, B1⟩, m1⟩
    · obtain ⟨n, rfl⟩ := Int.eq_ofNat_of_zero_le (show 0 ≤ n by omega)
      by_cases hl : l.length < a + n
      · rw [show mBytes (l.drop a) 0 n = ([], l.drop a, 20) from by unfold mBytes; rw [if_neg (by simp), if_neg (by omega), if_pos (by simp; omega)]]
        go_enter Tryz.func59, Tryz.ntmps59
        go_wp2_with fail
        refine (take_no l a n 0 p _ h1 h2 hl B).mono ?_
        rintro e w1 ⟨rfl, B1, m1⟩
        clear b1 b2 b3
        obtain ⟨b1, b2, b3⟩ := id B1
        go_wp2_with fail
        refine (refused_yes l a a 20 p _ B1).mono ?_
        rintro e w2 ⟨rfl, B2, m2⟩
        clear b1 b2 b3
        go_wp2_with fail
        go_ret
        exact ⟨rfl, ⟨l, a, h1, h2, rfl, B2⟩, m1.trans m2⟩
      · rw [show mBytes (l.drop a) 0 n = ((l.drop a).take n, l.drop (a + n), 0) from by
          have : ¬ ((l.drop a).length : Int) < n := by simp; omega
          simp only [mBytes, this, ne_eq, not_true_eq_false, if_false]
          rw [if_neg (by omega)]; simp]
        go_enter Tryz.func59, Tryz.ntmps59
        go_wp2_with fail
        refine (take_yes l a n 0 p _ h1 (by omega) B).mono ?_
        rintro e w1 ⟨rfl, B1, m1⟩
        clear b1 b2 b3
        go_wp2_with fail
        go_ret
        exact ⟨rfl, ⟨l, a + n, h1, by omega, rfl, B1⟩, m1⟩
  · rw [show mBytes (l.drop a) c n = ([], l.drop a, c) from by simp [mBytes, hc]]
    have hc1 : (c == 0) = false := by simpa using hc
    have hc2 : (c != 0) = true := by simpa using hc
    go_enter Tryz.func59, Tryz.ntmps59
    go_wp2_with fail
    go_ret
    exact ⟨rfl, R, Mod.refl _ _⟩

theorem number_ok (l : Bs) (at_ : Nat) (p : Nat) (w : World) (hl : l.length ≤ 9223372036854775807) (ha : at_ ≤ l.length) (B : Blk w p #[.string ⟨List.toArray (l)⟩, .int .i64 (at_), .int .i64 (0)]) :
    Calls Tryz.prog 110 #[.pointer (some ⟨p, 0, none⟩)] w fun e w' => e = .returned (.tuple #[.int .i64 ((Pl.take (l.drop at_)).1), .int .i64 ((Pl.take (l.drop at_)).2.2)]) ∧ NumAt p l at_ w' ∧ Mod [p] w w' := by
  cases hs : l.drop at_ with
  | nil =>
    have hx : at_ = l.length := by
      have := congrArg List.length hs
      simp at this
      omega
    refine (number_empty l at_ p w hl hx B).mono ?_
    rintro e w1 ⟨rfl, B1, m1⟩
    exact ⟨rfl, ⟨at_, ha, by omega, B1, fun h => by rw [hs] at h; cases h⟩, m1⟩
  | cons k r =>
    rw [← hs]
    exact number_some l at_ k r p w hl hs B

theorem number_bad (l : Bs) (at_ : Nat) (c : Int) (hc : c ≠ 0) (p : Nat) (w : World) (B : Blk w p #[.string ⟨List.toArray (l)⟩, .int .i64 (at_), .int .i64 (c)]) :
    Calls Tryz.prog 110 #[.pointer (some ⟨p, 0, none⟩)] w fun e w' => e = .returned (.tuple #[.int .i64 (0), .int .i64 (c)]) ∧ ∃ n, w' = w.drewN n := by
  obtain ⟨b1, b2, b3⟩ := id B
  have hc1 : (c == 0) = false := by simpa using hc
  have hc2 : (c != 0) = true := by simpa using hc
  go_enter Tryz.func110, Tryz.ntmps110
  go_wp2_with fail
  go_quiet (fail)
  go_wp2_with fail
  go_ret2
  exact ⟨rfl, _, rfl⟩


theorem rtext_in (l : Bs) (at_ : Nat) (most : Int) (p : Nat) (w : World) (hl : l.length ≤ 9223372036854775807) (ha : at_ ≤ l.length) (B : Blk w p #[.string ⟨List.toArray (l)⟩, .int .i64 (at_), .int .i64 (0)]) :
    Calls Tryz.prog 99 #[.pointer (some ⟨p, 0, none⟩), .int .i64 (most)] w fun e w' => e = .returned (.tuple #[.string ⟨List.toArray ((tx (l.drop at_) most).1)⟩, .int .i64 ((tx (l.drop at_) most).2.2)]) ∧
      (∃ x : Nat, x ≤ l.length ∧ Blk w' p #[.string ⟨List.toArray (l)⟩, .int .i64 (x), .int .i64 (0)] ∧ ((tx (l.drop at_) most).2.2 = 0 → l.drop x = (tx (l.drop at_) most).2.1)) ∧ Mod [p] w w' := by
  have htl := take_le (l.drop at_)
  by_cases he : (Pl.take (l.drop at_)).2.2 = 0
  · obtain ⟨hn, kk, hk1, hk2, hk3⟩ := htl he
    have hlen : (Pl.take (l.drop at_)).2.1.length + kk + at_ = l.length := by
      rw [hk3]; simp at hk2 ⊢; omega
    clear htl
    by_cases hm : most < (Pl.take (l.drop at_)).1
    · rw [show tx (l.drop at_) most = ([], [], 2) from by unfold tx; rw [if_neg (by simpa using he), if_pos hm]]
      go_enter Tryz.func99, Tryz.ntmps99
      go_wp2_with fail
      refine (number_ok l at_ p _ hl ha B).mono ?_
      rintro e w1 ⟨rfl, ⟨x, hx1, hx2, B1, hx3⟩, m1⟩
      rw [he]
      clear hx3 he hk3
      go_wp2_with fail
      go_ret2
      exact ⟨rfl, ⟨x, hx1, B1, fun h => by cases h⟩, m1⟩
    · by_cases hr : (Pl.take (l.drop at_)).2.1.length < (Pl.take (l.drop at_)).1
      · rw [show tx (l.drop at_) most = ([], [], 20) from by unfold tx; rw [if_neg (by simpa using he), if_neg hm, if_pos hr]]
        go_enter Tryz.func99, Tryz.ntmps99
        go_wp2_with fail
        refine (number_ok l at_ p _ hl ha B).mono ?_
        rintro e w1 ⟨rfl, ⟨x, hx1, hx2, B1, hx3⟩, m1⟩
        rw [he]
        have hx4 : (l.drop x).length = (Pl.take (l.drop at_)).2.1.length := by rw [hx3 he]
        have hx5 : l.length - x = (Pl.take (l.drop at_)).2.1.length := by simpa using hx4
        clear hx3 hx4 he hk3
        have HX := Lib.hid hx5
        clear hx5
        have HL := Lib.hid hlen
        clear hlen
        go_wp2_with fail
        refine (take_no l x _ 0 p _ hl hx1 (by have := HX.out; omega) B1).mono ?_
        rintro e w2 ⟨rfl, B2, m2⟩
        go_wp2_with fail
        go_ret2
        exact ⟨rfl, ⟨x, hx1, B2, fun h => by cases h⟩, m1.trans m2⟩
      · rw [show tx (l.drop at_) most = ((Pl.take (l.drop at_)).2.1.take (Pl.take (l.drop at_)).1, (Pl.take (l.drop at_)).2.1.drop (Pl.take (l.drop at_)).1, 0) from by unfold tx; rw [if_neg (by simpa using he), if_neg hm, if_neg hr]]
        go_enter Tryz.func99, Tryz.ntmps99
        go_wp2_with fail
        refine (number_ok l at_ p _ hl ha B).mono ?_
        rintro e w1 ⟨rfl, ⟨x, hx1, hx2, B1, hx3⟩, m1⟩
        rw [he]
        have hx4 := hx3 he
        have hx5 : l.length - x = (Pl.take (l.drop at_)).2.1.length := by rw [← hx4]; simp
        clear hx3 he hk3
        have HX := Lib.hid hx5
        have HX4 := Lib.hid hx4
        clear hx5 hx4
        have HL := Lib.hid hlen
        clear hlen
        have hgo : x + (Pl.take (l.drop at_)).1 ≤ l.length := by have := HX.out; omega
        go_wp2_with fail
        refine (take_yes l x _ 0 p _ hl hgo B1).mono ?_
        rintro e w2 ⟨rfl, B2, m2⟩
        go_wp2_with fail
        go_ret2
        refine ⟨ret_two (str_eq (by rw [HX4.out])) rfl, ⟨_, hgo, B2, fun _ => ?_⟩, m1.trans m2⟩
        rw [← List.drop_drop, HX4.out]
  · rw [show tx (l.drop at_) most = ([], [], (Pl.take (l.drop at_)).2.2) from by unfold tx; rw [if_pos he]]
    have hc2 : ((Pl.take (l.drop at_)).2.2 != 0) = true := by simpa using he
    clear htl
    go_enter Tryz.func99, Tryz.ntmps99
    go_wp2_with fail
    refine (number_ok l at_ p _ hl ha B).mono ?_
    rintro e w1 ⟨rfl, ⟨x, hx1, hx2, B1, hx3⟩, m1⟩
    clear hx3
    go_wp2_with fail
    go_ret2
    exact ⟨rfl, ⟨x, hx1, B1, fun h => absurd h he⟩, m1⟩

theorem rtext_bad (l : Bs) (at_ : Nat) (most c : Int) (hc : c ≠ 0) (p : Nat) (w : World) (B : Blk w p #[.string ⟨List.toArray (l)⟩, .int .i64 (at_), .int .i64 (c)]) :
    Calls Tryz.prog 99 #[.pointer (some ⟨p, 0, none⟩), .int .i64 (most)] w fun e w' => e = .returned (.tuple #[.string ⟨List.toArray ([])⟩, .int .i64 (c)]) ∧ ∃ n, w' = w.drewN n := by
  have hc2 : (c != 0) = true := by simpa using hc
  go_enter Tryz.func99, Tryz.ntmps99
  go_wp2_with fail
  refine (number_bad l at_ c hc p _ B).mono ?_
  rintro e w1 ⟨rfl, nq, rfl⟩
  go_wp2_with fail
  go_ret2
  exact ⟨rfl, _, rfl⟩

theorem rtext_any (s : Bs) (c most : Int) (p : Nat) (w : World) (R : Rdr w p s c) :
    Calls Tryz.prog 79 #[.pointer (some ⟨p, 0, none⟩), .int .i64 (most)] w fun e w' => e = .returned (.string ⟨List.toArray ((mText s c most).1)⟩) ∧ Rdr w' p (mText s c most).2.1 (mText s c most).2.2 ∧ Mod [p] w w' := by
  obtain ⟨l, a, h1, h2, rfl, B⟩ := id R
  obtain ⟨b1, b2, b3⟩ := id B
  by_cases hc : c = 0
  · subst hc
    by_cases he : (tx (l.drop a) most).2.2 = 0
    · rw [show mText (l.drop a) 0 most = ((tx (l.drop a) most).1, (tx (l.drop a) most).2.1, 0) from by simp [mText, he]]
      go_enter Tryz.func79, Tryz.ntmps79
      go_wp2_with fail
      refine (rtext_in l a most p _ h1 h2 B).mono ?_
      rintro e w1 ⟨rfl, ⟨x, hx1, B1, hx3⟩, m1⟩
      rw [he]
      have HX := Lib.hid (hx3 he)
      clear hx3 he b1 b2 b3
      go_wp2_with fail
      go_ret
      exact ⟨rfl, ⟨l, x, h1, hx1, HX.out, B1⟩, m1⟩
    · rw [show mText (l.drop a) 0 most = ([], l.drop a, (tx (l.drop a) most).2.2) from by simp [mText, he]]
      go_enter Tryz.func79, Tryz.ntmps79
      go_wp2_with fail
      refine (rtext_in l a most p _ h1 h2 B).mono ?_
      rintro e w1 ⟨rfl, ⟨x, hx1, B1, hx3⟩, m1⟩
      clear hx3 b1 b2 b3
      have hc2 : ((tx (l.drop a) most).2.2 != 0) = true := by simpa using he
      go_wp2_with fail
      refine (refused_yes l x a _ p _ B1).mono ?_
      rintro e w2 ⟨rfl, B2, m2⟩
      go_wp2_with fail
      go_ret
      exact ⟨rfl, ⟨l, a, h1, h2, rfl, B2⟩, m1.trans m2⟩
  · rw [show mText (l.drop a) c most = ([], l.drop a, c) from by simp [mText, hc]]
    have hc2 : (c != 0) = true := by simpa using hc
    go_enter Tryz.func79, Tryz.ntmps79
    go_wp2_with fail
    refine (rtext_bad l a most c hc p _ B).mono ?_
    rintro e w1 ⟨rfl, nq, rfl⟩
    go_wp2_with fail
    refine (refused_no l a a c c hc p _ (B.drewN nq)).mono ?_
    rintro e w2 ⟨rfl, rfl⟩
    go_wp2_with fail
    go_ret
    exact ⟨rfl, R.drewN nq, (Mod.refl _ _).drewN nq⟩

theorem rend_any (s : Bs) (c : Int) (p : Nat) (w : World) (R : Rdr w p s c) :
    Calls Tryz.prog 62 #[.pointer (some ⟨p, 0, none⟩)] w fun e w' => e = .returned (.int .i64 (mEnd s c)) ∧ Mod [p] w w' := by
  obtain ⟨l, a, h1, h2, rfl, B⟩ := id R
  obtain ⟨b1, b2, b3⟩ := id B
  by_cases hl : a = l.length
  · rw [show mEnd (l.drop a) c = c from by subst hl; simp [mEnd]]
    have h0 : ¬ (0 : Int) < (l.length : Int) - a := by omega
    have HL := Lib.hid hl
    clear hl
    go_enter Tryz.func62, Tryz.ntmps62
    go_wp2_with fail
    refine (left_any l a c p _ h1 h2 B).mono ?_
    rintro e w1 ⟨rfl, nq, rfl⟩
    go_wp2_with fail
    go_ret
    exact ⟨rfl, (Mod.refl _ _).drewN _⟩
  · have h0 : (0 : Int) < (l.length : Int) - a := by omega
    have hne : l.drop a ≠ [] := by intro h; have := congrArg List.length h; simp at this; omega
    by_cases hc : c = 0
    · subst hc
      rw [show mEnd (l.drop a) 0 = 3 from by unfold mEnd; rw [if_pos ⟨rfl, hne⟩]]
      go_enter Tryz.func62, Tryz.ntmps62
      go_wp2_with fail
      refine (left_any l a 0 p _ h1 h2 B).mono ?_
      rintro e w1 ⟨rfl, nq, rfl⟩
      go_wp2_with fail
      refine (refused_yes l a a 3 p _ (B.drewN nq)).mono ?_
      rintro e w2 ⟨rfl, B2, m2⟩
      clear b1 b2 b3
      obtain ⟨b1, b2, b3⟩ := id B2
      go_wp2_with fail
      go_ret
      exact ⟨rfl, ((Mod.refl _ _).drewN nq).trans m2⟩
    · rw [show mEnd (l.drop a) c = c from by unfold mEnd; rw [if_neg (fun h => hc h.1)]]
      go_enter Tryz.func62, Tryz.ntmps62
      go_wp2_with fail
      refine (left_any l a c p _ h1 h2 B).mono ?_
      rintro e w1 ⟨rfl, nq, rfl⟩
      go_wp2_with fail
      refine (refused_no l a a c 3 hc p _ (B.drewN nq)).mono ?_
      rintro e w2 ⟨rfl, rfl⟩
      go_wp2_with fail
      go_ret
      exact ⟨rfl, (Mod.refl _ _).drewN _⟩

end Go.Proofs.YtdddcncjmnekcaaGreatDoor

/- Walks of layer 2: numbers and texts as bytes. -/
set_option linter.unusedSimpArgs false
set_option linter.unusedVariables false
namespace Go.Proofs.YtdddcncjmnekcaaGreatDoor
open Go.RowKit Pl

/-- The eight cells: zeros, and the bytes so far. -/
def numCells (k : Nat) (d : Bs) : Array Value := ((List.replicate k 0 ++ d).map fun c : UInt8 => Value.int .u8 (c.toNat : Int)).toArray

theorem numCells_get (k : Nat) (d : Bs) (hk : 0 < k) : (numCells k d)[k - 1]? = some (.int .u8 0) := by
  have : ((List.replicate k (0 : UInt8) ++ d).map fun c : UInt8 => Value.int .u8 (c.toNat : Int))[k - 1]? = some (.int .u8 0) := by
    rw [List.getElem?_map, List.getElem?_append_left (by simp; omega), List.getElem?_replicate, if_pos (by omega)]
    rfl
  simpa [numCells] using this
theorem numCells_set (k : Nat) (d : Bs) (hk : 0 < k) (c : UInt8) : (numCells k d).setIfInBounds (k - 1) (.int .u8 (c.toNat : Int)) = numCells (k - 1) (c :: d) := by
  obtain ⟨j, rfl⟩ : ∃ j, k = j + 1 := ⟨k - 1, by omega⟩
  unfold numCells
  apply Array.ext'
  simp only [Array.toList_setIfInBounds, Nat.add_sub_cancel]
  rw [List.replicate_succ', List.append_assoc, List.map_append, List.map_append]
  rw [List.set_append_right _ _ (by simp)]
  simp
theorem numCells_tail (k : Nat) (d : Bs) (i : Nat) (hi : i < d.length) : (numCells k d)[k + i]? = some (.int .u8 ((d.getD i 0).toNat : Int)) := by
  have : ((List.replicate k (0 : UInt8) ++ d).map fun c : UInt8 => Value.int .u8 (c.toNat : Int))[k + i]? = some (.int .u8 ((d.getD i 0).toNat : Int)) := by
    rw [List.getElem?_map, List.getElem?_append_right (by simp)]
    simp [List.getD, List.getElem?_eq_getElem hi]
  simpa [numCells] using this


theorem num_len (n : Nat) : (num n).length ≤ 9 := by
  have : ∀ f m, (digs f m).length ≤ f := by
    intro f
    induction f with
    | zero => intro m; simp [digs]
    | succ f ih =>
      intro m
      unfold digs
      split
      · simp
      · have := ih (m / 256); simp; omega
  have := this 8 n
  simp [num]; omega



end Go.Proofs.YtdddcncjmnekcaaGreatDoor
