/- HeadB, Num, HeadE, Held. -/
import Derived.Test.YthgjdaomcpinaaaGreatDoorRows
import Derived.Test.YthgjdaomcpinaaaGreatDoorMg1
import Derived.Test.YthgjdaomcpinaaaGreatDoorMg3
import Derived.Test.YthgjdaomcpinaaaGreatDoorMg4
import Derived.Test.YthgjdaomcpinaaaGreatDoorMg8
set_option linter.unnecessarySimpa false

/- Layer 19, plain: a header that may be is told by its bytes. -/
set_option linter.unusedSimpArgs false
set_option linter.unusedVariables false
namespace Go.Proofs.YthgjdaomcpinaaaGreatDoor
namespace Pl

theorem mNumB (n : Nat) (h : n < 9223372036854775808) (r : Bs) : mNum (num n ++ r) 0 = (n, r, 0) := by
  unfold mNum
  rw [take_num n h r]
  simp
theorem mSk_all (r : Bs) : ∀ (l : List Bs), (∀ x ∈ l, x.length = 32) → ∀ m, m ≤ l.length → mSk (l.flatten ++ r) 0 m = (l.take m, (l.drop m).flatten ++ r, 0)
  | l, h, 0, _ => by simp [mSk]
  | l, h, m + 1, hm => by
    unfold mSk
    rw [mSk_all r l h m (by omega)]
    simp only
    have b := mBytes_app l[m] 32 (h _ (List.getElem_mem _)) ((l.drop (m + 1)).flatten ++ r)
    simp only [Int.cast_ofNat_Int] at b
    rw [List.drop_eq_getElem_cons (show m < l.length by omega), List.flatten_cons, List.append_assoc, b, List.take_add_one, List.getElem?_eq_getElem (show m < l.length by omega)]
    rfl
theorem flat_len32 : ∀ (l : List Bs), (∀ x ∈ l, x.length = 32) → l.flatten.length = 32 * l.length
  | [], _ => rfl
  | x :: l, h => by
    rw [List.flatten_cons, List.length_append, h x (by simp), flat_len32 l (fun y hy => h y (by simp [hy])), List.length_cons]
    omega
/-- What a header that may be is like. -/
structure FineH (h : Hd) : Prop where
  hn : 0 ≤ h.height ∧ h.height ≤ 1048576
  en : 0 ≤ h.epoch ∧ h.epoch ≤ 1048576
  vn : 0 ≤ h.view ∧ h.view ≤ 1048576
  txs : h.txs.length = 32
  members : h.members.length = 32
  next : h.next.length = 32
  state : h.state.length ≤ 32
  receipts : h.receipts.length ≤ 32
  parent : h.parent.length ≤ 32
  skl : h.skips.length = (linksF h.height).length
  sk : ∀ x ∈ h.skips, x.length = 32
theorem may_le {s : Bs} (h : may32 s = true) : s.length ≤ 32 := by
  unfold may32 at h
  simp only [Bool.or_eq_true, decide_eq_true_eq] at h
  rcases h with h | h
  · subst h; simp
  · omega
theorem fine_parts {h : Hd} (hf : fineH h = true) : FineH h := by
  rw [← fineHR_eq] at hf
  unfold fineHR numsH inH endH at hf
  simp only [Bool.and_eq_true, decide_eq_true_eq, List.all_eq_true] at hf
  obtain ⟨⟨⟨⟨h1, h2⟩, h3⟩, h4⟩, h5⟩ := hf
  refine ⟨h1.1.1, h1.1.2, h1.2, h2.1.1.1.1, h2.1.1.1.2, h2.1.1.2, may_le h2.1.2, may_le h2.2, ?_, h3, h4⟩
  split at h5
  · simp only [Bool.and_eq_true, decide_eq_true_eq] at h5
    rw [h5.1.1.1]
    simp
  · simp only [Bool.and_eq_true, decide_eq_true_eq] at h5
    omega
theorem rdH_writ {h : Hd} (hf : fineH h = true) (r : Bs) : rdH (writH h ++ r) = ⟨h, r, 0⟩ := by
  have p := fine_parts hf
  have e1 := p.hn
  have e2 := p.en
  have e3 := p.vn
  have hs := p.skl
  have hk := mSk_all r h.skips p.sk h.skips.length (Nat.le_refl _)
  rw [List.take_length, List.drop_length, List.flatten_nil, List.nil_append] at hk
  unfold rdH writH
  simp only [List.append_assoc]
  rw [mNumB _ (by omega)]
  simp only
  rw [mNumB _ (by omega)]
  simp only
  rw [mNumB _ (by omega)]
  simp only
  rw [mFlag_flag]
  simp only
  rw [mText_text _ 32 (by have := p.parent; omega) (by have := p.parent; omega)]
  simp only
  rw [mText_text _ 32 (by have := p.state; omega) (by have := p.state; omega)]
  simp only
  rw [mText_text _ 32 (by have := p.receipts; omega) (by have := p.receipts; omega)]
  simp only
  have b1 := mBytes_app h.txs 32 p.txs (h.members ++ (h.next ++ (h.skips.flatten ++ r)))
  have b2 := mBytes_app h.members 32 p.members (h.next ++ (h.skips.flatten ++ r))
  have b3 := mBytes_app h.next 32 p.next (h.skips.flatten ++ r)
  simp only [Int.cast_ofNat_Int] at b1 b2 b3
  rw [b1]
  simp only
  rw [b2]
  simp only
  rw [b3]
  simp only
  rw [show ((h.height.toNat : Nat) : Int) = h.height from by omega, show ((h.epoch.toNat : Nat) : Int) = h.epoch from by omega, show ((h.view.toNat : Nat) : Int) = h.view from by omega, ← hs, hk]
theorem decH_writ {h : Hd} (hf : fineH h = true) : decH (writH h) = (h, 0) := by
  have := rdH_writ hf []
  rw [List.append_nil] at this
  unfold decH
  rw [this]
  exact if_pos ⟨rfl, hf⟩
theorem num_len' (n : Nat) : (num n).length ≤ 9 := by
  unfold num
  have := digs_len 8 n
  simp
  omega
theorem writH_len {h : Hd} (hf : fineH h = true) : (writH h).length ≤ 1000 := by
  have p := fine_parts hf
  have hl := linksF_len h.height
  have h1 := num_len' h.height.toNat
  have h2 := num_len' h.epoch.toNat
  have h3 := num_len' h.view.toNat
  have h4 := text_len h.parent
  have h5 := text_len h.state
  have h6 := text_len h.receipts
  have h7 := p.txs
  have h8 := p.members
  have h9 := p.next
  have h10 := flat_len32 h.skips p.sk
  have h11 := p.parent
  have h12 := p.state
  have h13 := p.receipts
  have h14 := p.skl
  have h15 : (flagB h.last).length = 1 := by cases h.last <;> rfl
  unfold writH
  simp only [List.length_append]
  omega
theorem fine_hdZ : fineH hdZ = false := rfl
end Pl
end Go.Proofs.YthgjdaomcpinaaaGreatDoor

/- Walks of layer 2: numbers and texts as bytes. -/
set_option linter.unusedSimpArgs false
set_option linter.unusedVariables false
namespace Go.Proofs.YthgjdaomcpinaaaGreatDoor
open Go.RowKit Pl

/-- The eight cells: zeros, and the bytes so far. -/
def numCells (k : Nat) (d : Bs) : Array Value := ((List.replicate k 0 ++ d).map fun c : UInt8 => Value.int .u8 (c.toNat : Int)).toArray

theorem numCells_get (k : Nat) (d : Bs) (hk : 0 < k) : (numCells k d)[k - 1]? = some (.int .u8 0) := by
  have : ((List.replicate k (0 : UInt8) ++ d).map fun c : UInt8 => Value.int .u8 (c.toNat : Int))[k - 1]? = some (.int .u8 0) := by
    rw [List.getElem?_map, List.getElem?_append_left (by simp; omega), List.getElem?_replicate, if_pos (by omega)]
    rfl
  simpa [numCells] using this
theorem numCells_set (k : Nat) (d : Bs) (hk : 0 < k) (c : UInt8) : (numCells k d).setIfInBounds (k - 1) (.int .u8 (c.toNat : Int)) = numCells (k - 1) (c :: d) := by
  obtain ⟨j, rfl⟩ : ∃ j, k = j + 1 := ⟨k - 1, by omega⟩
  unfold numCells
  apply Array.ext'
  simp only [Array.toList_setIfInBounds, Nat.add_sub_cancel]
  rw [List.replicate_succ', List.append_assoc, List.map_append, List.map_append]
  rw [List.set_append_right _ _ (by simp)]
  simp
theorem numCells_tail (k : Nat) (d : Bs) (i : Nat) (hi : i < d.length) : (numCells k d)[k + i]? = some (.int .u8 ((d.getD i 0).toNat : Int)) := by
  have : ((List.replicate k (0 : UInt8) ++ d).map fun c : UInt8 => Value.int .u8 (c.toNat : Int))[k + i]? = some (.int .u8 ((d.getD i 0).toNat : Int)) := by
    rw [List.getElem?_map, List.getElem?_append_right (by simp)]
    simp [List.getD, List.getElem?_eq_getElem hi]
  simpa [numCells] using this

set_option maxRecDepth 100000 in
set_option maxHeartbeats 1000000 in
theorem cnum_any (n : Nat) (hn : n < 9223372036854775808) (w : World) :
    Calls Tryz.prog 98 #[.int .i64 (n)] w fun e w' => e = .returned (.string ⟨List.toArray (num n)⟩) ∧ Below w.heap.size w w' := by
  go_enter Tryz.func98, Tryz.ntmps98
  go_wp2_with fail
  go_loopw [0, 4] (fun s0 s4 wr => ∃ (k m : Nat) (d : Bs), k ≤ 8 ∧ d.length + k = 8 ∧ m < 256 ^ k ∧ m < 9223372036854775808 ∧ Hid (digs 8 n = digs k m ++ d) ∧ s0 = .int .i64 m ∧ s4 = .int .i64 k ∧ Blk wr w.heap.size (numCells k d) ∧ Below w.heap.size w wr)
    (fun _ s4 _ => (intOf s4).toNat)
  case atStart =>
    exact ⟨8, n, [], by omega, rfl, by omega, hn, Lib.hid (by simp), rfl, rfl, Blk.new _ _ _, (Below.refl _ _).alloc (Nat.le_refl _) _⟩
  case round =>
    obtain ⟨k, m, d, hk, hd, hm, hm2, HD, rfl, rfl, B, hb⟩ := hrel
    obtain ⟨b1, b2, b3⟩ := id B
    by_cases h0 : 0 < m
    · have hk0 : 0 < k := by
        rcases Nat.eq_zero_or_pos k with h | h
        · subst h; omega
        · exact h
      have hget := numCells_get k d hk0
      go_wp2_with fail
      obtain ⟨j, rfl⟩ : ∃ j, k = j + 1 := ⟨k - 1, by omega⟩
      refine ⟨⟨j, m / 256, UInt8.ofNat (m % 256) :: d, by omega, by simp at hd ⊢; omega, by rw [Nat.pow_succ] at hm; omega, by omega, ?_, by go_num, by simp, ?_, hb.setCell (Nat.le_refl _) _⟩, by simp [intOf] <;> omega⟩
      · refine Lib.hid ?_
        rw [HD.out, digs_step _ _ h0, List.append_assoc]; rfl
      · have hB := B.set j (.int .u8 ((UInt8.ofNat (m % 256)).toNat : Int))
        have hc := numCells_set (j + 1) d (by omega) (UInt8.ofNat (m % 256))
        simp only [Nat.add_sub_cancel] at hc
        rw [hc] at hB
        have hv : ((UInt8.ofNat (m % 256)).toNat : Int) = (m : Int) % 256 := by simp
        rw [hv] at hB
        exact hB
    · have hm0 : m = 0 := by omega
      subst hm0
      have hfin : num n = UInt8.ofNat d.length :: d := by
        unfold num
        rw [HD.out, digs_zero, List.nil_append]
      have HF := Lib.hid hfin
      clear hfin
      have hconv : ∀ W : World, (∀ o, W.cell? ⟨w.heap.size, o, none⟩ = (numCells k d)[o]?) → (convert 113 9 (.slice (some ⟨w.heap.size, k, none⟩) (8 - k) (8 - k))).run Tryz.prog W = .ok (.string ⟨List.toArray (d)⟩) W := fun W hW =>
        conv_str _ 5 _ Tryz.underlying113 Tryz.underlying5 Tryz.underlying9 _ _ _ _ d (by omega) (fun i hi => by rw [hW]; exact numCells_tail k d i (by omega))
      have hk8 : (k : Int) ≤ 8 := by omega
      have hcat : ¬ 9223372036854775807 < 1 + d.length := by omega
      have hu8 : UInt8.ofNat (8 - k) = UInt8.ofNat d.length := by congr 1; omega
      by_cases h8 : k = 8
      · subst h8
        have hd0 : d = [] := List.length_eq_zero_iff.1 (by omega)
        subst hd0
        clear hconv
        go_wp2_with fail
        go_region
        all_goals go_wp2_with fail
        all_goals go_ret
        all_goals exact ⟨by rw [HF.out]; rfl, by (repeat (first | exact Below.refl _ _ | assumption | apply Below.drew | apply below_drewN | apply Below.allocS | (refine Below.setCell ?_ (by simp <;> omega) _) | (refine Below.alloc ?_ (by simp <;> omega) _) | (refine Below.trans ?_ (Below.mono (by assumption) (by simp <;> omega)))))⟩
      · have h8n : ¬ 8 = k := by omega
        go_wp2_with fail
        go_region
        all_goals go_wp2_with fail
        all_goals go_ret
        all_goals exact ⟨by rw [HF.out]; rfl, by (repeat (first | exact Below.refl _ _ | assumption | apply Below.drew | apply below_drewN | apply Below.allocS | (refine Below.setCell ?_ (by simp <;> omega) _) | (refine Below.alloc ?_ (by simp <;> omega) _) | (refine Below.trans ?_ (Below.mono (by assumption) (by simp <;> omega)))))⟩

theorem num_len (n : Nat) : (num n).length ≤ 9 := by
  have : ∀ f m, (digs f m).length ≤ f := by
    intro f
    induction f with
    | zero => intro m; simp [digs]
    | succ f ih =>
      intro m
      unfold digs
      split
      · simp
      · have := ih (m / 256); simp; omega
  have := this 8 n
  simp [num]; omega

theorem ctext_any (s : Bs) (hs : s.length < 9223372036854775000) (w : World) :
    Calls Tryz.prog 50 #[.string ⟨List.toArray (s)⟩] w fun e w' => e = .returned (.string ⟨List.toArray (text s)⟩) ∧ Below w.heap.size w w' := by
  have hl := num_len s.length
  have hcat : ¬ 9223372036854775807 < (num s.length).length + s.length := by omega
  go_enter Tryz.func50, Tryz.ntmps50
  go_wp2_with fail
  refine (cnum_any s.length (by omega) _).mono ?_
  rintro e w1 ⟨rfl, hb⟩
  go_wp2_with fail
  go_ret
  exact ⟨rfl, hb⟩

theorem cNum_any (n : Nat) (hn : n < 9223372036854775808) (w : World) :
    Calls Tryz.prog 49 #[.int .i64 (n)] w fun e w' => e = .returned (.tuple #[.string ⟨List.toArray (num n)⟩, .int .i64 (0)]) ∧ Below w.heap.size w w' := by
  go_enter Tryz.func49, Tryz.ntmps49
  go_wp2_with fail
  refine (cnum_any n hn _).mono ?_
  rintro e w1 ⟨rfl, hb⟩
  go_wp2_with fail
  go_ret2
  exact ⟨rfl, hb⟩

end Go.Proofs.YthgjdaomcpinaaaGreatDoor

/- A header as bytes: the program's walk. -/
set_option linter.unusedSimpArgs false
set_option linter.unusedVariables false
namespace Go.Proofs.YthgjdaomcpinaaaGreatDoor
open Go.RowKit Go.Shelf Pl

def encHR (h : Hd) : Bs × Int := if fineH h then (writH h, 0) else ([], 190)
theorem encHR_yes {h : Hd} (hf : fineH h = true) : encHR h = (writH h, 0) := by unfold encHR; rw [hf]; rfl
theorem encHR_no {h : Hd} (hf : fineH h = false) : encHR h = ([], 190) := by unfold encHR; rw [hf]; rfl
/-- The three numbers. -/
def pre3 (n1 n2 n3 : Bs) : Nat → Bs
  | 0 => []
  | 1 => n1
  | 2 => n1 ++ n2
  | _ => n1 ++ (n2 ++ n3)
theorem flat_take (K : List Bs) (i : Nat) (hi : i < K.length) : (K.take (i + 1)).flatten = (K.take i).flatten ++ K.getD i [] := by
  rw [List.take_add_one, List.getElem?_eq_getElem hi, List.getD_eq_getElem?_getD, List.getElem?_eq_getElem hi, List.flatten_append]
  simp
set_option maxRecDepth 100000 in
set_option maxHeartbeats 4000000 in
theorem hd_encode (a1 a2 a3 : Int) (lb : Bool) (pa st rc tx me ne : Bs) (K : List Bs) (sk : Value) (w : World) (hk : SS w sk K) :
    Calls Tryz.prog 47 #[.agg #[.int .i64 (a1), .int .i64 (a2), .int .i64 (a3), .bool lb, .string ⟨List.toArray (pa)⟩, .string ⟨List.toArray (st)⟩, .string ⟨List.toArray (rc)⟩, .string ⟨List.toArray (tx)⟩, .string ⟨List.toArray (me)⟩, .string ⟨List.toArray (ne)⟩, sk]] w fun e w' => e = .returned (.tuple #[.string ⟨List.toArray ((encHR ⟨a1, a2, a3, lb, pa, st, rc, tx, me, ne, K⟩).1)⟩, .int .i64 ((encHR ⟨a1, a2, a3, lb, pa, st, rc, tx, me, ne, K⟩).2)]) ∧ Below w.heap.size w w' := by
  have hb0 : Below w.heap.size w (w.alloc (.cells #[.int .i64 (a1), .int .i64 (a2), .int .i64 (a3), .bool lb, .string ⟨List.toArray (pa)⟩, .string ⟨List.toArray (st)⟩, .string ⟨List.toArray (rc)⟩, .string ⟨List.toArray (tx)⟩, .string ⟨List.toArray (me)⟩, .string ⟨List.toArray (ne)⟩, sk] 24)) := Below.allocS (Below.refl _ _) _
  have B0 : Blk (w.alloc (.cells #[.int .i64 (a1), .int .i64 (a2), .int .i64 (a3), .bool lb, .string ⟨List.toArray (pa)⟩, .string ⟨List.toArray (st)⟩, .string ⟨List.toArray (rc)⟩, .string ⟨List.toArray (tx)⟩, .string ⟨List.toArray (me)⟩, .string ⟨List.toArray (ne)⟩, sk] 24)) w.heap.size #[.int .i64 (a1), .int .i64 (a2), .int .i64 (a3), .bool lb, .string ⟨List.toArray (pa)⟩, .string ⟨List.toArray (st)⟩, .string ⟨List.toArray (rc)⟩, .string ⟨List.toArray (tx)⟩, .string ⟨List.toArray (me)⟩, .string ⟨List.toArray (ne)⟩, sk] := Blk.new _ _ _
  have q1 := hd_check a1 a2 a3 lb pa st rc tx me ne K sk _ (hk.keep hb0)
  obtain ⟨ka, kc, rfl⟩ := hk.form
  have HK := Lib.hid hk
  clear hk
  cases hf : fineH ⟨a1, a2, a3, lb, pa, st, rc, tx, me, ne, K⟩
  · rw [encHR_no hf]
    rw [hf] at q1
    clear hf
    go_enter Tryz.func47, Tryz.ntmps47
    go_wp2_with fail
    refine q1.mono ?_
    rintro e w1 ⟨rfl, hb⟩
    have hb1 := hb0.trans (hb.mono hb0.size)
    go_wp2_with fail
    go_ret2
    exact ⟨rfl, hb1⟩
  · rw [encHR_yes hf]
    rw [hf] at q1
    have p := fine_parts hf
    have hw : writH ⟨a1, a2, a3, lb, pa, st, rc, tx, me, ne, K⟩ = (num a1.toNat ++ num a2.toNat ++ num a3.toNat) ++ (flagB lb ++ text pa ++ text st ++ text rc ++ tx ++ me ++ ne) ++ K.flatten := by
      unfold writH
      simp only [List.append_assoc]
    have g1 := p.hn
    have g2 := p.en
    have g3 := p.vn
    have g4 := p.txs
    have g5 := p.members
    have g6 := p.next
    have g7 := p.state
    have g8 := p.receipts
    have g9 := p.parent
    have g10 := p.skl
    have g11 := linksF_len a1
    have HKL := Lib.hid p.sk
    simp only at g1 g2 g3 g4 g5 g6 g7 g8 g9 g10
    have HKN : Hid (K.length ≤ 20) := Lib.hid (by omega)
    have HW := Lib.hid hw
    have n1 := fun W => cNum_any a1.toNat (by omega) W
    have n2 := fun W => cNum_any a2.toNat (by omega) W
    have n3 := fun W => cNum_any a3.toNat (by omega) W
    rw [show ((a1.toNat : Nat) : Int) = a1 from by omega] at n1
    rw [show ((a2.toNat : Nat) : Int) = a2 from by omega] at n2
    rw [show ((a3.toNat : Nat) : Int) = a3 from by omega] at n3
    have l1 := num_len a1.toNat
    have l2 := num_len a2.toNat
    have l3 := num_len a3.toNat
    have c1 := fun W => cflag_any lb W
    have c2 := fun W => ctext_any pa (by omega) W
    have c3 := fun W => ctext_any st (by omega) W
    have c4 := fun W => ctext_any rc (by omega) W
    have m1 : (flagB lb).length = 1 := by cases lb <;> rfl
    have m2 := text_len pa
    have m3 := text_len st
    have m4 := text_len rc
    clear hf p hw g10 g11 g1 g2 g3
    generalize writH ⟨a1, a2, a3, lb, pa, st, rc, tx, me, ne, K⟩ = R at *
    generalize num a1.toNat = N1 at *
    generalize num a2.toNat = N2 at *
    generalize num a3.toNat = N3 at *
    generalize flagB lb = F1 at *
    generalize text pa = T1 at *
    generalize text st = T2 at *
    generalize text rc = T3 at *
    have HN : Hid (N1.length ≤ 9 ∧ N2.length ≤ 9 ∧ N3.length ≤ 9) := Lib.hid ⟨l1, l2, l3⟩
    have HT : Hid (F1.length = 1 ∧ T1.length ≤ 41 ∧ T2.length ≤ 41 ∧ T3.length ≤ 41 ∧ tx.length = 32 ∧ me.length = 32 ∧ ne.length = 32) := Lib.hid ⟨m1, by omega, by omega, by omega, g4, g5, g6⟩
    clear l1 l2 l3 m1 m2 m3 m4 g4 g5 g6 g7 g8 g9
    go_enter Tryz.func47, Tryz.ntmps47
    go_wp2_with fail
    refine q1.mono ?_
    rintro e w1 ⟨rfl, hb⟩
    have hb1 := hb0.trans (hb.mono hb0.size)
    have B1 := B0.keep hb
    clear q1 hb hb0 B0
    obtain ⟨b1, b2, b3⟩ := id B1
    go_wp2_with fail
    have A2 : Blk (w1.alloc (.cells #[.int .i64 (a1), .int .i64 (a2), .int .i64 (a3)] 3)) w1.heap.size #[.int .i64 (a1), .int .i64 (a2), .int .i64 (a3)] := Blk.new _ _ _
    have hb2 := Below.allocS hb1 (.cells #[.int .i64 (a1), .int .i64 (a2), .int .i64 (a3)] 3)
    have B2 := B1.alloc (.cells #[.int .i64 (a1), .int .i64 (a2), .int .i64 (a3)] 3)
    clear b1 b2 b3 B1
    go_loopw [5, 25] (fun s5 s25 wr => ∃ i : Nat, s25 = .int .i64 (i) ∧ i ≤ 3 ∧ s5 = .string ⟨List.toArray (pre3 N1 N2 N3 i)⟩ ∧ Blk wr w1.heap.size #[.int .i64 (a1), .int .i64 (a2), .int .i64 (a3)] ∧ Blk wr w.heap.size #[.int .i64 (a1), .int .i64 (a2), .int .i64 (a3), .bool lb, .string ⟨List.toArray (pa)⟩, .string ⟨List.toArray (st)⟩, .string ⟨List.toArray (rc)⟩, .string ⟨List.toArray (tx)⟩, .string ⟨List.toArray (me)⟩, .string ⟨List.toArray (ne)⟩, .slice ka K.length kc] ∧ Below w.heap.size w wr) (fun _ s25 _ => 3 - (intOf s25).toNat)
    case atStart => exact ⟨0, rfl, by omega, rfl, A2, B2, hb2⟩
    case round =>
      clear A2 B2 hb2
      obtain ⟨i, rfl, hi, rfl, A, B, hb⟩ := hrel
      obtain ⟨wr, hnm⟩ := Below.name hb
      subst hnm
      obtain ⟨z1, z2, z3⟩ := HN.out
      obtain ⟨b1, b2, b3⟩ := id A
      have hbs := hb1.size
      rcases (show i = 0 ∨ i = 1 ∨ i = 2 ∨ i = 3 by omega) with rfl | rfl | rfl | rfl
      · rw [show pre3 N1 N2 N3 0 = [] from rfl]
        go_wp2_with fail
        refine (n1 _).mono ?_
        rintro e w3 ⟨rfl, hb3⟩
        go_wp2_with fail
        refine ⟨?_, by simp [intOf]⟩
        (repeat apply Exists.intro)
        exact ⟨⟨1, rfl, by omega, rfl, A.keep hb3, B.keep hb3, hb.trans (hb3.mono hb.size)⟩, rfl⟩
      · rw [show pre3 N1 N2 N3 1 = N1 from rfl]
        have k1 : ¬ 9223372036854775807 < N1.length + N2.length := by omega
        go_wp2_with fail
        refine (n2 _).mono ?_
        rintro e w3 ⟨rfl, hb3⟩
        go_wp2_with fail
        refine ⟨?_, by simp [intOf]⟩
        (repeat apply Exists.intro)
        exact ⟨⟨2, rfl, by omega, rfl, A.keep hb3, B.keep hb3, hb.trans (hb3.mono hb.size)⟩, rfl⟩
      · rw [show pre3 N1 N2 N3 2 = N1 ++ N2 from rfl]
        have k1 : ¬ 9223372036854775807 < N1.length + N2.length + N3.length := by omega
        go_wp2_with fail
        refine (n3 _).mono ?_
        rintro e w3 ⟨rfl, hb3⟩
        go_wp2_with fail
        refine ⟨?_, by simp [intOf]⟩
        (repeat apply Exists.intro)
        exact ⟨⟨3, rfl, by omega, rfl, A.keep hb3, B.keep hb3, hb.trans (hb3.mono hb.size)⟩, rfl⟩
      · rw [show pre3 N1 N2 N3 3 = N1 ++ (N2 ++ N3) from rfl]
        clear b1 b2 b3 A n1 n2 n3
        have HR : Hid (R = (N1 ++ (N2 ++ N3)) ++ (F1 ++ T1 ++ T2 ++ T3 ++ tx ++ me ++ ne) ++ K.flatten) := Lib.hid (by rw [HW.out, List.append_assoc N1 N2 N3])
        have hnl : (N1 ++ (N2 ++ N3)).length ≤ 27 := by simp; omega
        generalize N1 ++ (N2 ++ N3) = N at *
        go_wp2_with fail
        obtain ⟨t1, t2, t3, t4, t5, t6, t7⟩ := HT.out
        have k1 : ¬ 9223372036854775807 < F1.length + T1.length := by omega
        have k2 : ¬ 9223372036854775807 < F1.length + T1.length + T2.length := by omega
        have k3 : ¬ 9223372036854775807 < F1.length + T1.length + T2.length + T3.length := by omega
        have k4 : ¬ 9223372036854775807 < F1.length + T1.length + T2.length + T3.length + tx.length := by omega
        have k5 : ¬ 9223372036854775807 < F1.length + T1.length + T2.length + T3.length + tx.length + me.length := by omega
        have k6 : ¬ 9223372036854775807 < F1.length + T1.length + T2.length + T3.length + tx.length + me.length + ne.length := by omega
        have k7 : ¬ 9223372036854775807 < N.length + (F1.length + T1.length + T2.length + T3.length + tx.length + me.length + ne.length) := by omega
        have r3 : ¬ 9223372036854775807 < F1.length + (T1.length + (T2.length)) + T3.length := by omega
        have r4 : ¬ 9223372036854775807 < F1.length + (T1.length + (T2.length + (T3.length))) + tx.length := by omega
        have r5 : ¬ 9223372036854775807 < F1.length + (T1.length + (T2.length + (T3.length + (tx.length)))) + me.length := by omega
        have r6 : ¬ 9223372036854775807 < F1.length + (T1.length + (T2.length + (T3.length + (tx.length + (me.length))))) + ne.length := by omega
        have r7 : ¬ 9223372036854775807 < N.length + (F1.length + (T1.length + (T2.length + (T3.length + (tx.length + (me.length + (ne.length))))))) := by omega
        have hml : (N ++ (F1 ++ (T1 ++ (T2 ++ (T3 ++ (tx ++ (me ++ ne))))))).length ≤ 300 := by simp only [List.length_append]; omega
        clear t1 t2 t3 t4 t5 t6 t7
        refine wpH_start (by kernel_rfl) (fun hS => ?_)
        (refine wpH_pure 0 ?_ (oi := { dst := some 38, op := Op.move (Operand.tmp 5), type := 9, pos := "header.go:63", after := #[], guard := none }) rfl (by kernel_rfl) (by kernel_rfl) (by kernel_rfl) (by rfl) hS (fun _ _ _ h => h) ?_ ?_; rotate_left; focus (intro w; go_simp; try with_reducible rfl))
        try simp only [Act.put, List.setIfInBounds_toArray, List.set_cons_zero, List.set_cons_succ]
        (refine wpH_pure 1 ?_ (oi := { dst := some 39, op := Op.fieldAddr 24 (Operand.tmp 1) 3, type := 0, pos := "header.go:63", after := #[], guard := none }) rfl (by kernel_rfl) (by kernel_rfl) (by kernel_rfl) (by rfl) hS (fun _ _ _ h => h) ?_ ?_; rotate_left; focus (intro w; go_simp; try with_reducible rfl))
        try simp only [Act.put, List.setIfInBounds_toArray, List.set_cons_zero, List.set_cons_succ]
        refine wpH_load 2 (.bool lb) (oi := { dst := some 40, op := Op.load 4 (Operand.tmp 39), type := 4, pos := "header.go:63", after := #[{ on := 1, ground := Ground.data }], guard := none }) rfl (by kernel_rfl) (by kernel_rfl) (by kernel_rfl) (by rfl) hS (fun _ _ _ h => h) (fun w hb2 => (by have c := (B.keep hb2).cell 3; go_simp; try rfl)) ?_
        try simp only [Act.put, List.setIfInBounds_toArray, List.set_cons_zero, List.set_cons_succ]
        (refine wpH_pure 4 ?_ (oi := { dst := some 42, op := Op.fieldAddr 24 (Operand.tmp 1) 4, type := 0, pos := "header.go:63", after := #[], guard := none }) rfl (by kernel_rfl) (by kernel_rfl) (by kernel_rfl) (by rfl) hS (fun _ _ _ h => h) ?_ ?_; rotate_left; focus (intro w; go_simp; try with_reducible rfl))
        try simp only [Act.put, List.setIfInBounds_toArray, List.set_cons_zero, List.set_cons_succ]
        refine wpH_load 5 (.string ⟨List.toArray (pa)⟩) (oi := { dst := some 43, op := Op.load 9 (Operand.tmp 42), type := 9, pos := "header.go:63", after := #[{ on := 4, ground := Ground.data }], guard := none }) rfl (by kernel_rfl) (by kernel_rfl) (by kernel_rfl) (by rfl) hS (fun _ _ _ h => h) (fun w hb2 => (by have c := (B.keep hb2).cell 4; go_simp; try rfl)) ?_
        try simp only [Act.put, List.setIfInBounds_toArray, List.set_cons_zero, List.set_cons_succ]
        (refine wpH_pure 8 ?_ (oi := { dst := some 46, op := Op.fieldAddr 24 (Operand.tmp 1) 5, type := 0, pos := "header.go:63", after := #[], guard := none }) rfl (by kernel_rfl) (by kernel_rfl) (by kernel_rfl) (by rfl) hS (fun _ _ _ h => h) ?_ ?_; rotate_left; focus (intro w; go_simp; try with_reducible rfl))
        try simp only [Act.put, List.setIfInBounds_toArray, List.set_cons_zero, List.set_cons_succ]
        refine wpH_load 9 (.string ⟨List.toArray (st)⟩) (oi := { dst := some 47, op := Op.load 9 (Operand.tmp 46), type := 9, pos := "header.go:63", after := #[{ on := 8, ground := Ground.data }], guard := none }) rfl (by kernel_rfl) (by kernel_rfl) (by kernel_rfl) (by rfl) hS (fun _ _ _ h => h) (fun w hb2 => (by have c := (B.keep hb2).cell 5; go_simp; try rfl)) ?_
        try simp only [Act.put, List.setIfInBounds_toArray, List.set_cons_zero, List.set_cons_succ]
        (refine wpH_pure 12 ?_ (oi := { dst := some 50, op := Op.fieldAddr 24 (Operand.tmp 1) 6, type := 0, pos := "header.go:63", after := #[], guard := none }) rfl (by kernel_rfl) (by kernel_rfl) (by kernel_rfl) (by rfl) hS (fun _ _ _ h => h) ?_ ?_; rotate_left; focus (intro w; go_simp; try with_reducible rfl))
        try simp only [Act.put, List.setIfInBounds_toArray, List.set_cons_zero, List.set_cons_succ]
        refine wpH_load 13 (.string ⟨List.toArray (rc)⟩) (oi := { dst := some 51, op := Op.load 9 (Operand.tmp 50), type := 9, pos := "header.go:63", after := #[{ on := 12, ground := Ground.data }], guard := none }) rfl (by kernel_rfl) (by kernel_rfl) (by kernel_rfl) (by rfl) hS (fun _ _ _ h => h) (fun w hb2 => (by have c := (B.keep hb2).cell 6; go_simp; try rfl)) ?_
        try simp only [Act.put, List.setIfInBounds_toArray, List.set_cons_zero, List.set_cons_succ]
        (refine wpH_pure 16 ?_ (oi := { dst := some 54, op := Op.fieldAddr 24 (Operand.tmp 1) 7, type := 0, pos := "header.go:63", after := #[], guard := none }) rfl (by kernel_rfl) (by kernel_rfl) (by kernel_rfl) (by rfl) hS (fun _ _ _ h => h) ?_ ?_; rotate_left; focus (intro w; go_simp; try with_reducible rfl))
        try simp only [Act.put, List.setIfInBounds_toArray, List.set_cons_zero, List.set_cons_succ]
        refine wpH_load 17 (.string ⟨List.toArray (tx)⟩) (oi := { dst := some 55, op := Op.load 9 (Operand.tmp 54), type := 9, pos := "header.go:63", after := #[{ on := 16, ground := Ground.data }], guard := none }) rfl (by kernel_rfl) (by kernel_rfl) (by kernel_rfl) (by rfl) hS (fun _ _ _ h => h) (fun w hb2 => (by have c := (B.keep hb2).cell 7; go_simp; try rfl)) ?_
        try simp only [Act.put, List.setIfInBounds_toArray, List.set_cons_zero, List.set_cons_succ]
        (refine wpH_pure 19 ?_ (oi := { dst := some 57, op := Op.fieldAddr 24 (Operand.tmp 1) 8, type := 0, pos := "header.go:63", after := #[], guard := none }) rfl (by kernel_rfl) (by kernel_rfl) (by kernel_rfl) (by rfl) hS (fun _ _ _ h => h) ?_ ?_; rotate_left; focus (intro w; go_simp; try with_reducible rfl))
        try simp only [Act.put, List.setIfInBounds_toArray, List.set_cons_zero, List.set_cons_succ]
        refine wpH_load 20 (.string ⟨List.toArray (me)⟩) (oi := { dst := some 58, op := Op.load 9 (Operand.tmp 57), type := 9, pos := "header.go:63", after := #[{ on := 19, ground := Ground.data }], guard := none }) rfl (by kernel_rfl) (by kernel_rfl) (by kernel_rfl) (by rfl) hS (fun _ _ _ h => h) (fun w hb2 => (by have c := (B.keep hb2).cell 8; go_simp; try rfl)) ?_
        try simp only [Act.put, List.setIfInBounds_toArray, List.set_cons_zero, List.set_cons_succ]
        (refine wpH_pure 22 ?_ (oi := { dst := some 60, op := Op.fieldAddr 24 (Operand.tmp 1) 9, type := 0, pos := "header.go:63", after := #[], guard := none }) rfl (by kernel_rfl) (by kernel_rfl) (by kernel_rfl) (by rfl) hS (fun _ _ _ h => h) ?_ ?_; rotate_left; focus (intro w; go_simp; try with_reducible rfl))
        try simp only [Act.put, List.setIfInBounds_toArray, List.set_cons_zero, List.set_cons_succ]
        refine wpH_load 23 (.string ⟨List.toArray (ne)⟩) (oi := { dst := some 61, op := Op.load 9 (Operand.tmp 60), type := 9, pos := "header.go:63", after := #[{ on := 22, ground := Ground.data }], guard := none }) rfl (by kernel_rfl) (by kernel_rfl) (by kernel_rfl) (by rfl) hS (fun _ _ _ h => h) (fun w hb2 => (by have c := (B.keep hb2).cell 9; go_simp; try rfl)) ?_
        try simp only [Act.put, List.setIfInBounds_toArray, List.set_cons_zero, List.set_cons_succ]
        refine wpH_call 3 (oi := { dst := some 41, op := Op.call { callee := Callee.value (Operand.func 97), args := #[Operand.tmp 40], argTypes := #[4] }, type := 9, pos := "header.go:63", after := #[{ on := 2, ground := Ground.data }], guard := none }) rfl (by kernel_rfl) (by rfl) (c1 _) ?_ ?_
        · (go_simp; try rfl)
        rintro e w' ⟨rfl, hbx⟩
        refine ⟨_, rfl, hS.trans (hbx.mono hS.size), ?_⟩
        replace hS := hS.trans (hbx.mono hS.size)
        try simp only [Act.put, List.setIfInBounds_toArray, List.set_cons_zero, List.set_cons_succ]
        refine wpH_call 6 (oi := { dst := some 44, op := Op.call { callee := Callee.value (Operand.func 50), args := #[Operand.tmp 43], argTypes := #[9] }, type := 9, pos := "header.go:63", after := #[{ on := 5, ground := Ground.data }, { on := 3, ground := Ground.chain }], guard := none }) rfl (by kernel_rfl) (by rfl) (c2 _) ?_ ?_
        · (go_simp; try rfl)
        rintro e w' ⟨rfl, hbx⟩
        refine ⟨_, rfl, hS.trans (hbx.mono hS.size), ?_⟩
        replace hS := hS.trans (hbx.mono hS.size)
        try simp only [Act.put, List.setIfInBounds_toArray, List.set_cons_zero, List.set_cons_succ]
        (refine wpH_pure 7 ?_ (oi := { dst := some 45, op := Op.binOp BinOp.add 9 (Operand.tmp 41) (Operand.tmp 44) 9, type := 9, pos := "header.go:63", after := #[{ on := 3, ground := Ground.data }, { on := 6, ground := Ground.data }], guard := none }) rfl (by kernel_rfl) (by kernel_rfl) (by kernel_rfl) (by rfl) hS (fun _ _ _ h => h) ?_ ?_; rotate_left; focus (intro w; go_simp; try with_reducible rfl))
        try simp only [Act.put, List.setIfInBounds_toArray, List.set_cons_zero, List.set_cons_succ]
        refine wpH_call 10 (oi := { dst := some 48, op := Op.call { callee := Callee.value (Operand.func 50), args := #[Operand.tmp 47], argTypes := #[9] }, type := 9, pos := "header.go:63", after := #[{ on := 9, ground := Ground.data }, { on := 6, ground := Ground.chain }], guard := none }) rfl (by kernel_rfl) (by rfl) (c3 _) ?_ ?_
        · (go_simp; try rfl)
        rintro e w' ⟨rfl, hbx⟩
        refine ⟨_, rfl, hS.trans (hbx.mono hS.size), ?_⟩
        replace hS := hS.trans (hbx.mono hS.size)
        try simp only [Act.put, List.setIfInBounds_toArray, List.set_cons_zero, List.set_cons_succ]
        (refine wpH_pure 11 ?_ (oi := { dst := some 49, op := Op.binOp BinOp.add 9 (Operand.tmp 45) (Operand.tmp 48) 9, type := 9, pos := "header.go:63", after := #[{ on := 7, ground := Ground.data }, { on := 10, ground := Ground.data }], guard := none }) rfl (by kernel_rfl) (by kernel_rfl) (by kernel_rfl) (by rfl) hS (fun _ _ _ h => h) ?_ ?_; rotate_left; focus (intro w; go_simp; try with_reducible rfl))
        try simp only [Act.put, List.setIfInBounds_toArray, List.set_cons_zero, List.set_cons_succ]
        refine wpH_call 14 (oi := { dst := some 52, op := Op.call { callee := Callee.value (Operand.func 50), args := #[Operand.tmp 51], argTypes := #[9] }, type := 9, pos := "header.go:63", after := #[{ on := 13, ground := Ground.data }, { on := 10, ground := Ground.chain }], guard := none }) rfl (by kernel_rfl) (by rfl) (c4 _) ?_ ?_
        · (go_simp; try rfl)
        rintro e w' ⟨rfl, hbx⟩
        refine ⟨_, rfl, hS.trans (hbx.mono hS.size), ?_⟩
        replace hS := hS.trans (hbx.mono hS.size)
        try simp only [Act.put, List.setIfInBounds_toArray, List.set_cons_zero, List.set_cons_succ]
        (refine wpH_pure 15 ?_ (oi := { dst := some 53, op := Op.binOp BinOp.add 9 (Operand.tmp 49) (Operand.tmp 52) 9, type := 9, pos := "header.go:63", after := #[{ on := 11, ground := Ground.data }, { on := 14, ground := Ground.data }], guard := none }) rfl (by kernel_rfl) (by kernel_rfl) (by kernel_rfl) (by rfl) hS (fun _ _ _ h => h) ?_ ?_; rotate_left; focus (intro w; go_simp; try with_reducible rfl))
        try simp only [Act.put, List.setIfInBounds_toArray, List.set_cons_zero, List.set_cons_succ]
        (refine wpH_pure 18 ?_ (oi := { dst := some 56, op := Op.binOp BinOp.add 9 (Operand.tmp 53) (Operand.tmp 55) 9, type := 9, pos := "header.go:63", after := #[{ on := 15, ground := Ground.data }, { on := 17, ground := Ground.data }], guard := none }) rfl (by kernel_rfl) (by kernel_rfl) (by kernel_rfl) (by rfl) hS (fun _ _ _ h => h) ?_ ?_; rotate_left; focus (intro w; go_simp; try with_reducible rfl))
        try simp only [Act.put, List.setIfInBounds_toArray, List.set_cons_zero, List.set_cons_succ]
        (refine wpH_pure 21 ?_ (oi := { dst := some 59, op := Op.binOp BinOp.add 9 (Operand.tmp 56) (Operand.tmp 58) 9, type := 9, pos := "header.go:63", after := #[{ on := 18, ground := Ground.data }, { on := 20, ground := Ground.data }], guard := none }) rfl (by kernel_rfl) (by kernel_rfl) (by kernel_rfl) (by rfl) hS (fun _ _ _ h => h) ?_ ?_; rotate_left; focus (intro w; go_simp; try with_reducible rfl))
        try simp only [Act.put, List.setIfInBounds_toArray, List.set_cons_zero, List.set_cons_succ]
        (refine wpH_pure 24 ?_ (oi := { dst := some 62, op := Op.binOp BinOp.add 9 (Operand.tmp 59) (Operand.tmp 61) 9, type := 9, pos := "header.go:63", after := #[{ on := 21, ground := Ground.data }, { on := 23, ground := Ground.data }], guard := none }) rfl (by kernel_rfl) (by kernel_rfl) (by kernel_rfl) (by rfl) hS (fun _ _ _ h => h) ?_ ?_; rotate_left; focus (intro w; go_simp; try with_reducible rfl))
        try simp only [Act.put, List.setIfInBounds_toArray, List.set_cons_zero, List.set_cons_succ]
        (refine wpH_pure 25 ?_ (oi := { dst := some 63, op := Op.binOp BinOp.add 9 (Operand.tmp 38) (Operand.tmp 62) 9, type := 9, pos := "header.go:63", after := #[{ on := 0, ground := Ground.data }, { on := 24, ground := Ground.data }], guard := none }) rfl (by kernel_rfl) (by kernel_rfl) (by kernel_rfl) (by rfl) hS (fun _ _ _ h => h) ?_ ?_; rotate_left; focus (intro w; go_simp; try with_reducible rfl))
        try simp only [Act.put, List.setIfInBounds_toArray, List.set_cons_zero, List.set_cons_succ]
        (refine wpH_pure 26 ?_ (oi := { dst := some 5, op := Op.assign (Operand.tmp 63), type := 9, pos := "header.go:63", after := #[{ on := 25, ground := Ground.data }, { on := 14, ground := Ground.chain }, { on := 0, ground := Ground.phase }, { on := 1, ground := Ground.phase }, { on := 2, ground := Ground.phase }, { on := 3, ground := Ground.phase }, { on := 4, ground := Ground.phase }, { on := 5, ground := Ground.phase }, { on := 6, ground := Ground.phase }, { on := 7, ground := Ground.phase }, { on := 8, ground := Ground.phase }, { on := 9, ground := Ground.phase }, { on := 10, ground := Ground.phase }, { on := 11, ground := Ground.phase }, { on := 12, ground := Ground.phase }, { on := 13, ground := Ground.phase }, { on := 14, ground := Ground.phase }, { on := 15, ground := Ground.phase }, { on := 16, ground := Ground.phase }, { on := 17, ground := Ground.phase }, { on := 18, ground := Ground.phase }, { on := 19, ground := Ground.phase }, { on := 20, ground := Ground.phase }, { on := 21, ground := Ground.phase }, { on := 22, ground := Ground.phase }, { on := 23, ground := Ground.phase }, { on := 24, ground := Ground.phase }, { on := 25, ground := Ground.phase }], guard := none }) rfl (by kernel_rfl) (by kernel_rfl) (by kernel_rfl) (by rfl) hS (fun _ _ _ h => h) ?_ ?_; rotate_left; focus (intro w; go_simp; try with_reducible rfl))
        try simp only [Act.put, List.setIfInBounds_toArray, List.set_cons_zero, List.set_cons_succ]
        refine wpAnyH_done (by kernel_rfl) ?_ _
        have HRM : Hid (R = (N ++ (F1 ++ (T1 ++ (T2 ++ (T3 ++ (tx ++ (me ++ ne))))))) ++ K.flatten) := Lib.hid (by rw [HR.out]; simp only [List.append_assoc])
        generalize N ++ (F1 ++ (T1 ++ (T2 ++ (T3 ++ (tx ++ (me ++ ne)))))) = M at *
        obtain ⟨b1, b2, b3⟩ := id (B.keep hS)
        have hbZ := hb.trans (hS.mono hb.size)
        clear k1 k2 k3 k4 k5 k6 k7 r3 r4 r5 r6 r7 c1 c2 c3 c4 hS hb B HR
        go_wp2_with fail
        go_loopw [5, 67] (fun s5 s67 wr => ∃ i : Nat, s67 = .int .i64 (i) ∧ i ≤ K.length ∧ s5 = .string ⟨List.toArray (M ++ (K.take i).flatten)⟩ ∧ Below w.heap.size w wr) (fun _ s67 _ => K.length - (intOf s67).toNat)
        case atStart => exact ⟨0, rfl, Nat.zero_le _, by simp, hbZ⟩
        case round =>
          clear b1 b2 b3 hbZ
          obtain ⟨i, rfl, hi, rfl, hb⟩ := hrel
          obtain ⟨wr, hnm⟩ := Below.name hb
          subst hnm
          by_cases hlt : i < K.length
          · have HLT := Lib.hid hlt
            have hkn := HKN.out
            have i1 : decide ((i : Int) < (K.length : Int)) = true := by simp; omega
            have i0 : 0 ≤ (i : Int) ∧ (i : Int) < (K.length : Int) := by omega
            obtain ⟨g, off, e1, hg, x1⟩ := (HK.out.keep hb).at' i hlt
            subst e1
            have hx32 : (K.getD i []).length = 32 := HKL.out _ (by rw [List.getD_eq_getElem?_getD, List.getElem?_eq_getElem hlt]; exact List.getElem_mem _)
            have hfl := flat_len32 (K.take i) (fun y hy => HKL.out y (List.mem_of_mem_take hy))
            have hpl : (M ++ (K.take i).flatten).length ≤ 1000 := by
              have := HKN.out
              rw [List.length_append, hfl, List.length_take]; omega
            have HP : Hid ((M ++ (K.take i).flatten) ++ K.getD i [] = M ++ (K.take (i + 1)).flatten) := Lib.hid (by rw [flat_take K i hlt, List.append_assoc])
            clear hfl hlt
            generalize K.getD i [] = x at *
            generalize M ++ (K.take i).flatten = P at *
            have hcat : ¬ 9223372036854775807 < P.length + x.length := by omega
            go_wp2_with fail
            exact ⟨⟨i + 1, by go_num, by have := HLT.out; omega, by rw [← HP.out], hb⟩, by have := HLT.out; simp [intOf]; omega⟩
          · have e : i = K.length := by omega
            subst e
            rw [List.take_length, ← HRM.out]
            clear hlt
            go_wp2_with fail
            go_ret2
            exact ⟨rfl, hb⟩
end Go.Proofs.YthgjdaomcpinaaaGreatDoor

/- General tools for walks through drawn regions. -/
set_option linter.unusedSimpArgs false
set_option linter.unusedVariables false
namespace Go.Proofs.YthgjdaomcpinaaaGreatDoor
open Go.RowKit

theorem hold_and {a b : Prop} (h : a) (k : a → b) : a ∧ b := ⟨h, k h⟩
theorem wp_loads {P : Program} {o : Oper} {a : Act} {w : World} {K : Act → World → Prop} {Q : Exit → Act → World → Prop} (u : Value) (hv : (execOp a.eval o).run P w = .ok (.value u) w) (h : K (a.put o.dst u) w) : o.wp P a w K Q := by
  unfold Oper.wp
  rw [hv]
  exact h
theorem wpH_startB {P : Program} {id : Nat} {ops : Array Oper} {Q : Exit → Act → World → Prop} {a : Act} {w : World} (B : Nat) (hm : P.follows .mixedOrders = true)
    (h : Below B w w.drew → wpAnyH P .any ops Q (Below B w) ops.size (Array.replicate ops.size false) a w.drew) : (Code.region id ops true).wp P Q a w :=
  wp_region_held_drew hm (Below.refl _ _).drew h


theorem wpO_op {P : Program} {ops : Array Oper} {Q : Exit → Act → World → Prop} {a : Act} {w : World} {K : Act → World → Prop} {i : Nat} {oi : Oper} (hi : ops[i]? = some oi) (hw : Region.wanted oi (yielded ops a.tmps) = true) (h : oi.wp P a w K Q) : wpOp P ops Q i K a w := by
  unfold wpOp
  simp only [hi, hw, if_true]
  exact .inl h
theorem wpO_call {P : Program} {ops : Array Oper} {Q : Exit → Act → World → Prop} {S : World → Prop} {a : Act} {w : World} {K : Act → World → Prop} {i : Nat} {oi : Oper} (hi : ops[i]? = some oi) (hw : Region.wanted oi (yielded ops a.tmps) = true) {f : FuncId} {args : Array Value} {R : Ending → World → Prop} (hc : Calls P f args w R)
    (hv : (execOp a.eval oi).run P w = .ok (.enter f args) w) (h : ∀ e w', R e w' → ∃ v, e = .returned v ∧ S w' ∧ K (a.put oi.dst v) w') : wpOp P ops Q i (fun a' w' => S w' ∧ K a' w') a w := by
  unfold wpOp
  simp only [hi, hw, if_true]
  refine .inl ?_
  unfold Oper.wp
  rw [hv, Oper.upon_enter]
  refine hc.mono fun e w' hR => ?_
  obtain ⟨v, rfl, h1, h2⟩ := h e w' hR
  exact ⟨h1, h2⟩
/-- A post of the normal exit alone. -/
def NormQ (R : Act → World → Prop) : Exit → Act → World → Prop
  | .normal, a, w => R a w
  | _, _, _ => False
theorem wp_region_ex {P : Program} {c : Code} {Q : Exit → Act → World → Prop} {a : Act} {w : World} {ι : Type} (f : ι → Act → Act) (F : ι → World → Prop) (h : c.wp P (NormQ fun a' w' => ∃ i, a' = f i a ∧ F i w') a w) (k : ∀ i w', F i w' → Q .normal (f i a) w') : c.wp P Q a w :=
  Code.wp_mono (fun e a' w' hq => by
    cases e
    case normal =>
      obtain ⟨i, ha, hF⟩ : ∃ i, a' = f i a ∧ F i w' := hq
      subst ha
      exact k i w' hF
    all_goals exact absurd hq id) h
/-- A new block of zeros, its number a name. -/
theorem wp_allocK {P : Program} {o : Oper} {a : Act} {w : World} {K : Act → World → Prop} {Q : Exit → Act → World → Prop} (t : TypeId) (ho : o.op = .alloc t) (z : Array Value) (hz : ∀ w : World, (execOp a.eval o).run P w = .ok (.value (.pointer (some ⟨w.heap.size, 0, none⟩))) (w.alloc (.cells z t)))
    (h : ∀ k w', w.heap.size ≤ k → Blk w' k z → Below w.heap.size w w' → K (a.put o.dst (.pointer (some ⟨k, 0, none⟩))) w') : o.wp P a w K Q := by
  unfold Oper.wp
  rw [hz w]
  exact h _ _ (Nat.le_refl _) (Blk.new _ _ _) (Below.allocS (Below.refl _ _) _)
/-- A new block, its number a name. -/
theorem wp_newK {P : Program} {o : Oper} {a : Act} {w : World} {K : Act → World → Prop} {Q : Exit → Act → World → Prop} (t : TypeId) (z : Array Value) (u : Nat → Value) (hz : ∀ w : World, (execOp a.eval o).run P w = .ok (.value (u w.heap.size)) (w.alloc (.cells z t)))
    (h : ∀ k w', w.heap.size ≤ k → w'.heap[k]? = some (.cells z t) → k < w'.heap.size → Below w.heap.size w w' → K (a.put o.dst (u k)) w') : o.wp P a w K Q := by
  unfold Oper.wp
  rw [hz w]
  exact h _ _ (Nat.le_refl _) (heap_alloc_new w _) (by simp) (Below.allocS (Below.refl _ _) _)
theorem Blk.of_heap {w : World} {k : Nat} {z : Array Value} {t : TypeId} (hh : w.heap[k]? = some (.cells z t)) (hk : k < w.heap.size) : Blk w k z :=
  ⟨fun o => by simp [World.cell?, hh], fun o => by simp [World.frozen?, hh], hk⟩
end Go.Proofs.YthgjdaomcpinaaaGreatDoor
