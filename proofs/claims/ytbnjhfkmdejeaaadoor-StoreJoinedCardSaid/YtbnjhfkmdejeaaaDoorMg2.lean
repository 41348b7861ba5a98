/- Plain, Kit2, Texts. -/
import Derived.Deep.MidRow
import Derived.Test.YtbnjhfkmdejeaaaDoorMg1
set_option linter.unnecessarySimpa false

/- The document's answer for the layers 1, 2 (nibble, code), as plain functions on lists of bytes; no program in sight. -/
namespace Go.Proofs.YtbnjhfkmdejeaaaDoor
namespace Pl

abbrev Bs := List UInt8

/-! ### layer 1 -/
def fit (p : Bs) : Bool := p.all fun c => decide (c.toNat ≤ 15)
def ofP (s : Bs) : Bs := s.flatMap fun c => [UInt8.ofNat (c.toNat / 16), UInt8.ofNat (c.toNat % 16)]
def joined : Bs → Bs
  | a :: b :: r => UInt8.ofNat (a.toNat * 16 + b.toNat) :: joined r
  | _ => []
def pack (p : Bs) (leaf : Bool) : Bs × Int :=
  if fit p = false then ([], 3)
  else if p.length % 2 = 1 then (UInt8.ofNat ((if leaf then 32 else 0) + 16 + (p.headD 0).toNat) :: joined p.tail, 0)
  else (UInt8.ofNat (if leaf then 32 else 0) :: joined p, 0)
def unpack : Bs → Bs × Bool × Int
  | [] => ([], false, 3)
  | c :: r =>
    if 3 < c.toNat / 16 ∨ (c.toNat / 16 % 2 = 0 ∧ c.toNat % 16 ≠ 0) then ([], false, 3)
    else ((if c.toNat / 16 % 2 = 1 then UInt8.ofNat (c.toNat % 16) :: ofP r else ofP r), decide (2 ≤ c.toNat / 16), 0)
theorem ofP_snoc (l : Bs) (c : UInt8) : ofP (l ++ [c]) = ofP l ++ [UInt8.ofNat (c.toNat / 16), UInt8.ofNat (c.toNat % 16)] := by simp [ofP]
theorem ofP_len (l : Bs) : (ofP l).length = 2 * l.length := by
  induction l with
  | nil => rfl
  | cons c r ih =>
    have : ofP (c :: r) = [UInt8.ofNat (c.toNat / 16), UInt8.ofNat (c.toNat % 16)] ++ ofP r := by simp [ofP]
    rw [this, List.length_append, ih]; simp; omega
theorem fit_take (p : Bs) (i : Nat) (h : i < p.length) : fit (p.take (i + 1)) = (fit (p.take i) && decide (p[i].toNat ≤ 15)) := by
  unfold fit
  rw [List.take_succ_eq_append_getElem h, List.all_append]
  simp
theorem fit_at (p : Bs) (h : fit p = true) (i : Nat) (hi : i < p.length) : p[i].toNat ≤ 15 := by
  have := List.all_eq_true.1 h p[i] (List.getElem_mem hi)
  simpa using this
theorem fit_not (p : Bs) (i : Nat) (hi : i < p.length) (h : 15 < p[i].toNat) : fit p = false := by
  cases hf : fit p with
  | false => rfl
  | true => have := fit_at p hf i hi; omega

/-! ### layer 2 -/
/-- The bytes of a number, the greatest first, without zeros ahead. -/
def digs : Nat → Nat → Bs
  | 0, _ => []
  | f + 1, n => if n = 0 then [] else digs f (n / 256) ++ [UInt8.ofNat (n % 256)]
theorem digs_step (f n : Nat) (h : 0 < n) : digs (f + 1) n = digs f (n / 256) ++ [UInt8.ofNat (n % 256)] := by
  rw [digs, if_neg (by omega)]
theorem digs_zero (f : Nat) : digs f 0 = [] := by cases f <;> rfl
def num (n : Nat) : Bs := UInt8.ofNat (digs 8 n).length :: digs 8 n
def text (s : Bs) : Bs := num s.length ++ s
def be (l : Bs) : Nat := l.foldl (fun a b => a * 256 + b.toNat) 0
theorem be_snoc (l : Bs) (c : UInt8) : be (l ++ [c]) = be l * 256 + c.toNat := by simp [be]
theorem foldl_be (l : Bs) : ∀ a : Nat, l.foldl (fun a b => a * 256 + b.toNat) a = a * 256 ^ l.length + be l := by
  induction l with
  | nil => intro a; simp [be]
  | cons c r ih =>
    intro a
    have h1 := ih (a * 256 + c.toNat)
    have h2 := ih c.toNat
    simp only [List.foldl_cons, be, Nat.zero_mul, Nat.zero_add, List.length_cons] at *
    rw [h1, h2, Nat.pow_succ, Nat.add_mul, Nat.mul_assoc, Nat.mul_comm 256]
    omega
theorem be_cons (c : UInt8) (r : Bs) : be (c :: r) = c.toNat * 256 ^ r.length + be r := by
  have := foldl_be r c.toNat
  simpa [be] using this
theorem be_lt (l : Bs) : be l < 256 ^ l.length := by
  induction l with
  | nil => simp [be]
  | cons c r ih =>
    rw [be_cons, List.length_cons, Nat.pow_succ]
    have := c.toNat_lt
    have h : c.toNat * 256 ^ r.length ≤ 255 * 256 ^ r.length := Nat.mul_le_mul_right _ (by omega)
    omega
theorem be_bound (b : Bs) (hb : b.length ≤ 8) (h8 : b.length = 8 → (b.headD 0).toNat ≤ 127) (i : Nat) (hi : i < b.length) : be (b.take i) < 36028797018963968 := by
  have h1 := be_lt (b.take i)
  have hl : (b.take i).length = i := by simp; omega
  rw [hl] at h1
  by_cases h7 : i ≤ 6
  · have : 256 ^ i ≤ 256 ^ 6 := Nat.pow_le_pow_right (by decide) h7
    omega
  · have hi7 : i = 7 := by omega
    subst hi7
    have hb8 : b.length = 8 := by omega
    match b, hb8, h8 hb8 with
    | c :: r, hr, hc =>
      simp only [List.headD_cons] at hc
      rw [List.take_succ_cons, be_cons]
      have h2 := be_lt (r.take 6)
      have h3 : (r.take 6).length = 6 := by simp at hr ⊢; omega
      rw [h3] at h2 ⊢
      have : c.toNat * 256 ^ 6 ≤ 127 * 256 ^ 6 := Nat.mul_le_mul_right _ hc
      omega
/-- The number at the beginning, what is behind it, and what is wrong. -/
def take (s : Bs) : Nat × Bs × Int :=
  match s with
  | [] => (0, [], 20)
  | k :: r =>
    if 8 < k.toNat then (0, [], 3)
    else if r.length < k.toNat then (0, [], 20)
    else if (0 < k.toNat ∧ r.headD 0 = 0) ∨ (k.toNat = 8 ∧ 127 < (r.headD 0).toNat) then (0, [], 3)
    else (be (r.take k.toNat), r.drop k.toNat, 0)
/-- Likewise a text. -/
def tx (s : Bs) (most : Int) : Bs × Bs × Int :=
  if (take s).2.2 ≠ 0 then ([], [], (take s).2.2)
  else if most < (take s).1 then ([], [], 2)
  else if (take s).2.1.length < (take s).1 then ([], [], 20)
  else ((take s).2.1.take (take s).1, (take s).2.1.drop (take s).1, 0)
/-! ### The reader: what is left, and the code. Each gives: the answer, what is left then, the code then. -/
def mBytes (s : Bs) (c n : Int) : Bs × Bs × Int :=
  if c ≠ 0 then ([], s, c) else if n < 0 then ([], s, 1) else if (s.length : Int) < n then ([], s, 20) else (s.take n.toNat, s.drop n.toNat, 0)
def mNum (s : Bs) (c : Int) : Nat × Bs × Int :=
  if c ≠ 0 then (0, s, c) else if (take s).2.2 ≠ 0 then (0, s, (take s).2.2) else ((take s).1, (take s).2.1, 0)
def mText (s : Bs) (c most : Int) : Bs × Bs × Int :=
  if c ≠ 0 then ([], s, c) else if (tx s most).2.2 ≠ 0 then ([], s, (tx s most).2.2) else ((tx s most).1, (tx s most).2.1, 0)
def mEnd (s : Bs) (c : Int) : Int := if c = 0 ∧ s ≠ [] then 3 else c

theorem take_le (s : Bs) (h : (take s).2.2 = 0) : (take s).1 < 9223372036854775808 ∧ ∃ k, 1 ≤ k ∧ k ≤ s.length ∧ (take s).2.1 = s.drop k := by
  cases s with
  | nil => exact absurd h (by decide)
  | cons k r =>
    unfold take at h ⊢
    simp only at h ⊢
    split at h
    · exact absurd h (by decide)
    · rename_i h8
      split at h
      · exact absurd h (by decide)
      · rename_i hr
        split at h
        · exact absurd h (by decide)
        · rename_i hz
          rw [if_neg h8, if_neg hr, if_neg hz]
          refine ⟨?_, k.toNat + 1, by omega, by simp; omega, by simp⟩
          have hl : (r.take k.toNat).length = k.toNat := by simp; omega
          by_cases h0 : k.toNat = 0
          · simp [h0, be]
          · have hb := be_bound (r.take k.toNat) (by omega) (fun h => by
              have h1 : (r.take k.toNat).headD 0 = r.headD 0 := by
                cases r with
                | nil => simp
                | cons a r =>
                  obtain ⟨n, hn⟩ : ∃ n, k.toNat = n + 1 := ⟨k.toNat - 1, by omega⟩
                  rw [hn]; rfl
              rw [h1]
              have := fun h' => hz (.inr ⟨by omega, h'⟩)
              omega) (k.toNat - 1) (by omega)
            have hs : be (r.take k.toNat) = be ((r.take k.toNat).take (k.toNat - 1)) * 256 + ((r.take k.toNat)[k.toNat - 1]'(by omega)).toNat := by
              have h2 : (r.take k.toNat).take (k.toNat - 1 + 1) = r.take k.toNat := List.take_of_length_le (by omega)
              rw [← be_snoc, ← List.take_succ_eq_append_getElem (by omega), h2]
            have := ((r.take k.toNat)[k.toNat - 1]'(by omega)).toNat_lt
            simp only [hs]
            omega
/-! ### layer 8 -/
/-- The first n kids that are there. -/
def kidsTo (kid : Nat → Bs) (n : Nat) : List Bs := ((List.range n).map kid).filter fun s => !s.isEmpty
def kidsF (kid : Nat → Bs) : List Bs := kidsTo kid 16
def sameL (a b : List Bs) : Bool := decide (a = b)
def kidL (kid : Nat → Bs) : List Bs := (List.range 16).map kid
def noKids (kid : Nat → Bs) : Bool := sameL (kidL kid) (List.replicate 16 [])
def oneKidX (kid : Nat → Bs) (x : Bs) : Bool := sameL (kidL kid) (x :: List.replicate 15 [])
def oneKid (kid : Nat → Bs) : Bool := oneKidX kid (kid 0)
def pathOk (p : Bs) (least : Int) : Bool := fit p && decide (least ≤ p.length) && decide (p.length ≤ 16)
def all32 (l : List Bs) : Bool := l.all fun s => decide (s.length = 32)
def chk (kind : Int) (path val : Bs) (kid : Nat → Bs) : Bool :=
  if kind = 1 then noKids kid && pathOk path 0 && !val.isEmpty && decide (val.length ≤ 32)
  else if kind = 2 then oneKidX kid (kid 0) && all32 [kid 0] && pathOk path 1 && val.isEmpty
  else if kind = 3 then path.isEmpty && all32 (kidsF kid) && decide (2 ≤ (kidsF kid).length + (if val.isEmpty then 0 else 1)) && decide (val.length ≤ 32)
  else false
def chkI (b : Bool) : Int := if b then 0 else 80
theorem kidsTo_succ (kid : Nat → Bs) (n : Nat) : kidsTo kid (n + 1) = kidsTo kid n ++ (if kid n = [] then [] else [kid n]) := by
  unfold kidsTo
  rw [List.range_succ, List.map_append, List.filter_append]
  congr 1
  simp [List.filter_cons]
theorem kidsTo_len (kid : Nat → Bs) (n : Nat) : (kidsTo kid n).length ≤ n := by
  unfold kidsTo
  refine Nat.le_trans (List.length_filter_le _ _) ?_
  simp
/-- The bits of the kids that are there, as a number: the first of n is the greatest. -/
def bitv (kid : Nat → Bs) (i : Nat) : Nat := if kid i = [] then 0 else 1
def numTo (kid : Nat → Bs) : Nat → Nat
  | 0 => 0
  | n + 1 => numTo kid n * 2 + bitv kid n
def hiK (kid : Nat → Bs) : Nat := numTo kid 8
def loK (kid : Nat → Bs) : Nat := numTo kid 16 % 256
def flatTo (kid : Nat → Bs) (n : Nat) : Bs := (kidsTo kid n).flatten
theorem numTo_lt (kid : Nat → Bs) (n : Nat) : numTo kid n < 2 ^ n := by
  induction n with
  | zero => simp [numTo]
  | succ n ih =>
    have : bitv kid n ≤ 1 := by unfold bitv; split <;> omega
    rw [numTo, Nat.pow_succ]; omega
theorem hiK_lt (kid : Nat → Bs) : hiK kid < 256 := numTo_lt kid 8
theorem loK_lt (kid : Nat → Bs) : loK kid < 256 := Nat.mod_lt _ (by decide)
theorem numTo_add (kid : Nat → Bs) (n m : Nat) : numTo kid (n + m) = numTo kid n * 2 ^ m + numTo (fun i => kid (n + i)) m := by
  induction m with
  | zero => simp [numTo]
  | succ m ih =>
    rw [← Nat.add_assoc, numTo, ih, numTo, Nat.pow_succ]
    have : bitv kid (n + m) = bitv (fun i => kid (n + i)) m := rfl
    rw [this, Nat.add_mul, Nat.mul_assoc]; omega
theorem numTo_16 (kid : Nat → Bs) : numTo kid 16 = hiK kid * 256 + loK kid := by
  have h := numTo_add kid 8 8
  have h2 := numTo_lt (fun i => kid (8 + i)) 8
  unfold hiK loK
  simp only [Nat.reduceAdd, Nat.reducePow] at h h2 ⊢
  omega
theorem numTo_shift (kid : Nat → Bs) (k : Nat) (hk : k < 16) (he : kid k ≠ []) : (numTo kid k * 2 ^ (16 - k)) ||| 2 ^ (15 - k) = numTo kid (k + 1) * 2 ^ (16 - (k + 1)) := by
  have h1 : 16 - k = (15 - k) + 1 := by omega
  have h2 : 16 - (k + 1) = 15 - k := by omega
  rw [h1, h2, numTo, bitv, if_neg he]
  have h3 := Nat.two_pow_add_eq_or_of_lt (i := (15 - k) + 1) (b := 2 ^ (15 - k)) (Nat.pow_lt_pow_right (by omega) (by omega)) (numTo kid k)
  rw [Nat.mul_comm (numTo kid k), ← h3, Nat.pow_succ, Nat.add_mul, Nat.one_mul, Nat.mul_comm (numTo kid k * 2), Nat.mul_assoc, Nat.mul_comm 2 (numTo kid k)]
theorem numTo_same (kid : Nat → Bs) (k : Nat) (hk : k < 16) (he : kid k = []) : numTo kid k * 2 ^ (16 - k) = numTo kid (k + 1) * 2 ^ (16 - (k + 1)) := by
  have h1 : 16 - k = (15 - k) + 1 := by omega
  have h2 : 16 - (k + 1) = 15 - k := by omega
  rw [h1, h2, numTo, bitv, if_pos he, Nat.pow_succ, Nat.add_zero, Nat.mul_assoc, Nat.mul_comm 2]
theorem numTo_le (kid : Nat → Bs) (k : Nat) (hk : k ≤ 16) : numTo kid k * 2 ^ (16 - k) < 65536 := by
  have h := numTo_lt kid k
  have h2 : 2 ^ k * 2 ^ (16 - k) = 65536 := by rw [← Nat.pow_add, Nat.add_sub_cancel' hk]
  rw [← h2]
  exact Nat.mul_lt_mul_of_pos_right h (Nat.two_pow_pos _)
/-- The bytes of a node that may be. -/
def enc (kind : Int) (path val : Bs) (kid : Nat → Bs) : Bs :=
  if kind = 3 then [3, UInt8.ofNat (hiK kid), UInt8.ofNat (loK kid)] ++ (kidsF kid).flatten ++ text val
  else if kind = 1 then 1 :: (text (pack path true).1 ++ text val)
  else 2 :: (text (pack path false).1 ++ kid 0)
def encR (kind : Int) (path val : Bs) (kid : Nat → Bs) : Bs × Int := if chk kind path val kid then (enc kind path val kid, 0) else ([], 80)
theorem joined_len' (s : Bs) : (joined s).length ≤ s.length := by
  induction s using joined.induct with
  | case1 a b r ih => simp [joined] at ih ⊢; omega
  | case2 s h => 
    rw [joined.eq_def]
    split
    · rename_i a b r; exact absurd rfl (h a b r)
    · simp
theorem pack_len (p : Bs) (leaf : Bool) : (pack p leaf).1.length ≤ p.length + 1 := by
  unfold pack
  have h1 := joined_len' p
  have h2 := joined_len' p.tail
  have h3 : p.tail.length ≤ p.length := by simp
  split
  · simp
  · split
    · simp at *; omega
    · simp; omega
theorem text_len (s : Bs) : (text s).length ≤ s.length + 9 := by
  have : ∀ f m, (digs f m).length ≤ f := by
    intro f
    induction f with
    | zero => intro m; simp [digs]
    | succ f ih =>
      intro m
      unfold digs
      split
      · simp
      · have := ih (m / 256); simp; omega
  have := this 8 s.length
  simp [text, num]; omega
/-- The kids by the bits, out of a reader: the first k. -/
def upd (kid : Nat → Bs) (k : Nat) (x : Bs) : Nat → Bs := fun i => if i = k then x else kid i
def noK : Nat → Bs := fun _ => []
def rdKids (set : Nat) (s : Bs) (c : Int) : Nat → (Nat → Bs) × Bs × Int
  | 0 => (noK, s, c)
  | k + 1 =>
    if set / 2 ^ (15 - k) % 2 = 1 then (upd (rdKids set s c k).1 k (mBytes (rdKids set s c k).2.1 (rdKids set s c k).2.2 32).1, (mBytes (rdKids set s c k).2.1 (rdKids set s c k).2.2 32).2)
    else rdKids set s c k
theorem mText_len (s : Bs) (c most : Int) (h0 : 0 ≤ most) : ((mText s c most).1.length : Int) ≤ most := by
  unfold mText
  split
  · simpa using h0
  · split
    · simpa using h0
    · unfold tx
      split
      · simpa using h0
      · split
        · simpa using h0
        · split
          · simpa using h0
          · simp; omega
/-- A node. -/
structure Nd where
  kind : Int
  path : Bs
  val : Bs
  kid : Nat → Bs
def ndZ : Nd := ⟨0, [], [], noK⟩
/-- What a branch's bytes tell, behind its kind and its bits: the node, what is left, the code. -/
def rdB (set : Nat) (r : Bs) : Nd × Bs × Int :=
  (⟨3, [], (mText (rdKids set r 0 16).2.1 (rdKids set r 0 16).2.2 32).1, (rdKids set r 0 16).1⟩, (mText (rdKids set r 0 16).2.1 (rdKids set r 0 16).2.2 32).2)
def rdL (r : Bs) (c : Int) : Nd × Bs × Int :=
  (⟨1, (unpack (mText r c 16).1).1, (mText (mText r c 16).2.1 (mText r c 16).2.2 32).1, noK⟩, (mText (mText r c 16).2.1 (mText r c 16).2.2 32).2)
def rdE (k : Int) (r : Bs) (c : Int) : Nd × Bs × Int :=
  (⟨k, (unpack (mText r c 16).1).1, [], upd noK 0 (mBytes (mText r c 16).2.1 (mText r c 16).2.2 32).1⟩, (mBytes (mText r c 16).2.1 (mText r c 16).2.2 32).2)
def decEnd (x : Nd × Bs × Int) (f : Bool) : Nd × Int :=
  if mEnd x.2.1 x.2.2 = 0 ∧ f = true ∧ chk x.1.kind x.1.path x.1.val x.1.kid = true then (x.1, 0) else (ndZ, 80)
/-- The node of bytes. -/
def dec : Bs → Nd × Int
  | [] => (ndZ, 80)
  | k :: r =>
    if k = 3 then match r with
      | a :: b :: r' => decEnd (rdB (a.toNat * 256 + b.toNat) r') true
      | _ => (ndZ, 80)
    else if k = 1 then decEnd (rdL r 0) (decide ((unpack (mText r 0 16).1).2.2 = 0) && (unpack (mText r 0 16).1).2.1)
    else decEnd (rdE k.toNat r 0) (decide ((unpack (mText r 0 16).1).2.2 = 0) && !(unpack (mText r 0 16).1).2.1)
theorem unpack_len (s : Bs) : (unpack s).1.length ≤ 2 * s.length := by
  cases s with
  | nil => simp [unpack]
  | cons c r =>
    have h := ofP_len r
    by_cases h1 : 3 < c.toNat / 16 ∨ (c.toNat / 16 % 2 = 0 ∧ c.toNat % 16 ≠ 0)
    · rw [unpack, if_pos h1]; simp
    · rw [unpack, if_neg h1]
      by_cases h2 : c.toNat / 16 % 2 = 1
      · simp [h2, h]; omega
      · simp [h2, h]; omega
/-- The document's answer: may a node be? -/
def fineR (kind : Int) (path val : Bs) (kid : Nat → Bs) : Bool :=
  if all32 (kidsF kid) = false then false
  else if fit path = false ∨ 16 < path.length ∨ 32 < val.length then false
  else if kind = 1 then decide ((kidsF kid).length = 0) && !val.isEmpty
  else if kind = 2 then decide ((kidsF kid).length = 1) && !(kid 0).isEmpty && decide (1 ≤ path.length) && val.isEmpty
  else if kind = 3 then decide (path.length = 0) && (decide (2 ≤ (kidsF kid).length) || decide ((kidsF kid).length = 1) && !val.isEmpty)
  else false
theorem flat_succ (kid : Nat → Bs) (k : Nat) : (kidsTo kid (k + 1)).flatten = (kidsTo kid k).flatten ++ kid k := by
  rw [kidsTo_succ, List.flatten_append]
  by_cases h : kid k = []
  · simp [h]
  · simp [h]
theorem loK_eq (kid : Nat → Bs) : loK kid = numTo (fun i => kid (8 + i)) 8 := by
  have h := numTo_add kid 8 8
  have h2 := numTo_lt (fun i => kid (8 + i)) 8
  unfold loK
  simp only [Nat.reduceAdd, Nat.reducePow] at h h2 ⊢
  omega
def hiT (kid : Nat → Bs) (k : Nat) : Nat := numTo kid (min k 8)
def loT (kid : Nat → Bs) (k : Nat) : Nat := numTo (fun i => kid (8 + i)) (k - 8)
theorem hiT_lo (kid : Nat → Bs) (k : Nat) (h : k < 8) : hiT kid (k + 1) = hiT kid k * 2 + bitv kid k ∧ loT kid (k + 1) = loT kid k := by
  unfold hiT loT
  rw [show min (k + 1) 8 = k + 1 from by omega, show min k 8 = k from by omega, numTo, show k + 1 - 8 = 0 from by omega, show k - 8 = 0 from by omega]
  exact ⟨rfl, rfl⟩
theorem loT_hi (kid : Nat → Bs) (k : Nat) (h : 8 ≤ k) : loT kid (k + 1) = loT kid k * 2 + bitv kid k ∧ hiT kid (k + 1) = hiT kid k := by
  unfold hiT loT
  rw [show min (k + 1) 8 = 8 from by omega, show min k 8 = 8 from by omega, show k + 1 - 8 = (k - 8) + 1 from by omega, numTo]
  refine ⟨?_, rfl⟩
  have : bitv (fun i => kid (8 + i)) (k - 8) = bitv kid k := by
    have h8 : 8 + (k - 8) = k := by omega
    simp [bitv, h8]
  rw [this]
theorem hiT_lt (kid : Nat → Bs) (k : Nat) : hiT kid k < 256 := Nat.lt_of_lt_of_le (numTo_lt kid (min k 8)) (Nat.pow_le_pow_right (by omega) (Nat.min_le_right _ _))
theorem loT_lt (kid : Nat → Bs) (k : Nat) (h : k ≤ 16) : loT kid k < 256 := Nat.lt_of_lt_of_le (numTo_lt _ (k - 8)) (Nat.pow_le_pow_right (by omega) (show k - 8 ≤ 8 by omega))
end Pl
end Go.Proofs.YtbnjhfkmdejeaaaDoor

/- General lemmas, further ones: a region whose reads and quiet calls stand ahead of one store; whole rows (arrays, structs) loaded and stored as opaque lists; results that lie in cells. -/
set_option linter.unusedSimpArgs false
set_option linter.unusedVariables false
namespace Go.Proofs.YtbnjhfkmdejeaaaDoor
open Go.RowKit

theorem wp_tail {P : Program} {id : Nat} {Q : Exit → Act → World → Prop} {a : Act} {w : World} {l : List Oper} (n : Nat) (hm : P.follows .mixedOrders = true) (hB : Region.lexTailB .any l.toArray n = true)
    (h : ∀ w2, w2 = w.drew → wpStill P l.toArray w2 (fun a' => wpList P l.toArray Q (l.drop n) a' w2) (l.take n) a) : (Code.region id l.toArray true).wp P Q a w :=
  wp_region_still_tail n hm hB (h _ rfl)

/-- A type whose values are rows of n cells. -/
structure RowT (P : Program) (T : TypeId) (n : Nat) : Prop where
  und : ∃ d, P.underlying T = some d ∧ d.isRow = true
  size : (P.info? T).map (·.size) = some n
theorem RowT.mk' {P : Program} {T : TypeId} {n : Nat} {d : TypeDesc} (h : P.underlying T = some d) (hd : d.isRow = true) (hs : (P.info? T).map (·.size) = some n) : RowT P T n := ⟨⟨d, h, hd⟩, hs⟩

theorem Blk.range {w : World} {b : Nat} {vs : List Value} (h : Blk w b vs.toArray) : w.rangeAt b 0 vs := by
  intro j v hv
  rw [Nat.zero_add, h.cell j]
  simpa using hv
theorem Mod.setCellsL (b : Nat) : ∀ (vs : List Value) (o : Nat) (w : World), Mod [b] w (w.setCells b o vs)
  | [], _, w => Mod.refl _ _
  | v :: r, o, w => by
    rw [World.setCells]
    exact ((Mod.refl _ w).setCell (.inl (by simp)) v).trans (Mod.setCellsL b r (o + 1) _)

section
variable {P : Program} {T : TypeId} {n : Nat} {ops : Array Oper} {rest : List Oper} {op : Oper} {a : Act} {w : World} {Q : Exit → Act → World → Prop}
theorem wpList_rowLoad (hT : RowT P T n) (hgd : op.guard = none) (x : Operand) (ho : op.op = .load T x) {b : Nat} (hx : a.eval x = .pointer (some ⟨b, 0, none⟩)) {vs : List Value} (hl : vs.length = n) (hB : Blk w b vs.toArray)
    (h : wpList P ops Q rest (a.put op.dst (.agg vs.toArray)) w) : wpList P ops Q (op :: rest) a w := by
  obtain ⟨⟨d, h1, h2⟩, h3⟩ := hT
  exact wpList_load_mid hgd T x ho b 0 hx vs d hB.range h1 h2 (by rw [hl]; exact h3) h
theorem wpList_rowLoadG (hT : RowT P T n) (hw : Region.wanted op (yielded ops a.tmps) = true) (x : Operand) (ho : op.op = .load T x) {b : Nat} (hx : a.eval x = .pointer (some ⟨b, 0, none⟩)) {vs : List Value} (hl : vs.length = n) (hB : Blk w b vs.toArray)
    (h : wpList P ops Q rest (a.put op.dst (.agg vs.toArray)) w) : wpList P ops Q (op :: rest) a w := by
  obtain ⟨⟨d, h1, h2⟩, h3⟩ := hT
  refine wpList_step fun K hK => ?_
  rw [if_pos hw]
  exact wp_load_mid T x ho b 0 hx vs d hB.range h1 h2 (by rw [hl]; exact h3) (hK _ _ h)
theorem wpList_rowStore (hT : RowT P T n) (hgd : op.guard = none) (hd : op.dst = none) (x y : Operand) (ho : op.op = .store T x y) {b : Nat} (hx : a.eval x = .pointer (some ⟨b, 0, none⟩)) {vs : List Value} (hy : a.eval y = .agg vs.toArray) (hl : vs.length = n) (h1 : ∀ v ∈ vs, v.oneCell' = true)
    {us : List Value} (hlu : us.length = n) (hB : Blk w b us.toArray)
    (h : ∀ w', Blk w' b vs.toArray → Mod [b] w w' → wpList P ops Q rest a w') : wpList P ops Q (op :: rest) a w := by
  obtain ⟨_, h3⟩ := hT
  have ht : w.there b 0 vs.length := fun j hj => by
    rw [Nat.zero_add, hB.cell, hB.froz]
    simp; omega
  refine wpList_store_mid hgd T x y ho b 0 _ hx hy (by simpa using ht) (by simp [hl, h3]) (all_oneCell_toArray h1) ?_
  rw [hd]
  refine h _ ⟨fun o => ?_, fun o => by rw [World.frozen?_setCells]; exact hB.froz o, ?_⟩ (Mod.setCellsL b _ 0 w)
  · by_cases ho : o < vs.length
    · have := World.cell?_setCells_in b vs 0 w (fun i hi => (ht i hi).1) o ho
      rw [Nat.zero_add] at this
      simp only [List.getElem?_toArray]
      rw [List.getElem?_eq_getElem ho]
      exact this
    · rw [World.cell?_setCells_out b _ 0 w _ (fun _ _ => .inr (by simp at ho ⊢; omega)), hB.cell]
      simp at ho ⊢
      rw [List.getElem?_eq_none (by omega), List.getElem?_eq_none (by omega)]
  · exact Nat.lt_of_lt_of_le hB.lt (Mod.setCellsL b _ 0 w).size
theorem row_loadVar (hT : RowT P T n) (w : World) {b : Nat} {vs : List Value} (hl : vs.length = n) (hB : Blk w b vs.toArray) : (loadVar T ⟨b, 0, none⟩).run P w = .ok (.agg vs.toArray) w := by
  obtain ⟨⟨d, h1, h2⟩, h3⟩ := hT
  exact run_loadVar_mid w b 0 T vs d hB.range h1 h2 (by rw [hl]; exact h3)
end

/-- A name for the world. -/
theorem Below.name {B : Nat} {a w : World} (_ : Below B a w) : ∃ w' : World, w' = w := ⟨w, rfl⟩

/-- A lone result that lies in a cell. -/
theorem results_cell1 {P : Program} {fn : Func} {a : Nat} {t : TypeId} (h : fn.results = #[.cell a t]) (tmps : Array Value) (w : World) (p : Addr) (v : Value) (hp : tmps.getD a undef = .pointer (some p)) (hl : (loadVar t p).run P w = .ok v w) :
    (results fn tmps).run P w = .ok v w := by
  unfold results
  rw [h]
  rw [Array.getD_eq_getD_getElem?] at hp
  simp [hp, asAddr, hl, Sem.run_bind]

/-- A callee that only computes, in a region that only reads: behind no draw, behind draws. -/
theorem quietC {P : Program} {f : FuncId} {args : Array Value} {w : World} {n : Nat} {v : Value} (h : ∀ W : World, Calls P f args W fun e w' => e = .returned v ∧ W = w') :
    Calls P f args (w.drewN n) fun e w'' => e = .returned v ∧ ∃ k, w'' = w.drewN k :=
  (h _).mono fun _ _ ⟨he, hw⟩ => ⟨he, n, hw.symm⟩
theorem quietD {P : Program} {f : FuncId} {args : Array Value} {w : World} {a n : Nat} {v : Value} (h : ∀ W : World, Calls P f args W fun e w' => e = .returned v ∧ W = w') :
    Calls P f args (w.drewN (a + n)) fun e w'' => e = .returned v ∧ ∃ k, w'' = w.drewN (a + k) :=
  (h _).mono fun _ _ ⟨he, hw⟩ => ⟨he, n, hw.symm⟩

/-! ### A region in the text's order: what stood before stays, calls may make memory -/
section
variable {P : Program} {ops : Array Oper} {C : World → Prop} {Q : Act → Prop} {o : Oper} {rest : List Oper} {a : Act}
theorem wpQ_skip (hw : Region.wanted o (yielded ops a.tmps) = false) (h : wpQuiet P ops C Q rest (a.put o.dst undef)) : wpQuiet P ops C Q (o :: rest) a := by
  unfold wpQuiet
  rw [if_neg (by rw [hw]; simp)]
  exact h
theorem wpQ_load (hw : Region.wanted o (yielded ops a.tmps) = true) (u : Value) (hv : ∀ w, C w → (execOp a.eval o).run P w = .ok (.value u) w) (h : wpQuiet P ops C Q rest (a.put o.dst u)) : wpQuiet P ops C Q (o :: rest) a := by
  unfold wpQuiet
  rw [if_pos hw]
  exact ⟨u, fun w hC => by unfold Oper.quietAt; rw [hv w hC]; exact ⟨rfl, rfl⟩, h⟩
theorem wpQ_pure (hw : Region.wanted o (yielded ops a.tmps) = true) (u : Value) (hv : ∀ w, (execOp a.eval o).run P w = .ok (.value u) w) (h : wpQuiet P ops C Q rest (a.put o.dst u)) : wpQuiet P ops C Q (o :: rest) a :=
  wpQ_load hw u (fun w _ => hv w) h
theorem wpQ_call (hw : Region.wanted o (yielded ops a.tmps) = true) (f : FuncId) (args : Array Value) (v : Value) (hc : ∀ w, C w → Calls P f args w fun e w' => e = .returned v ∧ C w') (hv : ∀ w, (execOp a.eval o).run P w = .ok (.enter f args) w)
    (h : wpQuiet P ops C Q rest (a.put o.dst v)) : wpQuiet P ops C Q (o :: rest) a := by
  unfold wpQuiet
  rw [if_pos hw]
  exact ⟨v, fun w hC => by unfold Oper.quietAt; rw [hv w]; exact ⟨rfl, hc w hC⟩, h⟩
theorem wpQ_row {T : TypeId} {n : Nat} (hT : RowT P T n) (hw : Region.wanted o (yielded ops a.tmps) = true) (x : Operand) (ho : o.op = .load T x) {b : Nat} (hx : a.eval x = .pointer (some ⟨b, 0, none⟩)) {vs : List Value} (hl : vs.length = n) (hB : ∀ w, C w → Blk w b vs.toArray)
    (h : wpQuiet P ops C Q rest (a.put o.dst (.agg vs.toArray))) : wpQuiet P ops C Q (o :: rest) a :=
  wpQ_load hw _ (fun w hC => by
    unfold execOp
    simp only [ho, hx, Instr.loadAt, Instr.sureAddr, Sem.run_bind, Sem.run_pure, Result.andThen_ok, row_loadVar hT w hl (hB w hC)]) h
theorem wpQ_cell {T : TypeId} (hw : Region.wanted o (yielded ops a.tmps) = true) (x : Operand) (ho : o.op = .load T x) {ad : Addr} (hx : a.eval x = .pointer (some ad)) {v : Value} (hc : ∀ w, C w → w.cell? ad = some v)
    (hr : ∀ w, w.cell? ad = some v → (loadVar T ad).run P w = .ok v w)
    (h : wpQuiet P ops C Q rest (a.put o.dst v)) : wpQuiet P ops C Q (o :: rest) a :=
  wpQ_load hw _ (fun w hC => by
    unfold execOp
    simp only [ho, hx, Instr.loadAt, Instr.sureAddr, Sem.run_bind, Sem.run_pure, Result.andThen_ok, hr w (hc w hC)]) h
end
theorem wp_held {P : Program} {id : Nat} {Q : Exit → Act → World → Prop} {a : Act} {w : World} {l : List Oper} (hm : P.follows .mixedOrders = true) (hB : Region.lexB .any l.toArray = true)
    (h : wpQuiet P l.toArray (Below w.heap.size w) (fun a' => ∀ w', Below w.heap.size w w' → Q .normal a' w') l a) : (Code.region id l.toArray true).wp P Q a w :=
  wp_region_quiet (C := Below w.heap.size w) hm hB (Below.refl _ _).drew (by simpa using h)
/-- A call that leaves what stood before. -/
theorem callB {P : Program} {W : World} {f : FuncId} {args : Array Value} {v : Value} (h : ∀ w, Calls P f args w fun e w' => e = .returned v ∧ Below w.heap.size w w') :
    ∀ w, Below W.heap.size W w → Calls P f args w fun e w' => e = .returned v ∧ Below W.heap.size W w' :=
  fun w hb => (h w).mono fun _ _ ⟨he, hb2⟩ => ⟨he, hb.trans (hb2.mono hb.size)⟩
theorem callW {P : Program} {W : World} {f : FuncId} {args : Array Value} {v : Value} (h : ∀ w, Below W.heap.size W w → Calls P f args w fun e w' => e = .returned v ∧ Below w.heap.size w w') :
    ∀ w, Below W.heap.size W w → Calls P f args w fun e w' => e = .returned v ∧ Below W.heap.size W w' :=
  fun w hb => (h w hb).mono fun _ _ ⟨he, hb2⟩ => ⟨he, hb.trans (hb2.mono hb.size)⟩
/-- One that only computes, or only draws. -/
theorem callS {P : Program} {W : World} {f : FuncId} {args : Array Value} {v : Value} (h : ∀ w, Below W.heap.size W w → Calls P f args w fun e w' => e = .returned v ∧ w = w') :
    ∀ w, Below W.heap.size W w → Calls P f args w fun e w' => e = .returned v ∧ Below W.heap.size W w' :=
  fun w hb => (h w hb).mono fun _ _ ⟨he, hb2⟩ => ⟨he, hb2 ▸ hb⟩
theorem callD {P : Program} {W : World} {f : FuncId} {args : Array Value} {v : Value} (h : ∀ w, Below W.heap.size W w → Calls P f args w fun e w' => e = .returned v ∧ ∃ n, w' = w.drewN n) :
    ∀ w, Below W.heap.size W w → Calls P f args w fun e w' => e = .returned v ∧ Below W.heap.size W w' :=
  fun w hb => (h w hb).mono fun _ _ ⟨he, n, hb2⟩ => ⟨he, hb2 ▸ below_drewN hb n⟩

/-! ### A region in an order of ours: what only computes or reads what stays comes first; calls one by one -/
section
variable {P : Program} {ops : Array Oper} {S : World → Prop} {Q : Exit → Act → World → Prop} {fuel : Nat} {listed : Array Bool} {a : Act} {w : World} {oi : Oper}
theorem wpH_pure (i : Nat) (u : Value) (hi : ops[i]? = some oi) (hs : Region.noSelect ops = true) (hf : Region.free .any ops listed i = true) (hr : (Region.ready .any ops listed).contains i = true)
    (hw : Region.wanted oi (yielded ops a.tmps) = true) (hS : S w) (hQ : ∀ c a w, Q (.panic c) (a.put oi.dst u) w → Q (.panic c) a w) (hv : ∀ w, (execOp a.eval oi).run P w = .ok (.value u) w)
    (h : wpAnyH P .any ops Q S fuel (listed.setIfInBounds i true) (a.put oi.dst u) w) : wpAnyH P .any ops Q S (fuel + 1) listed a w :=
  wpAnyH_take hi hs hf hr hQ (.inl ⟨hw, fun w _ => hv w⟩) hS h
theorem wpH_skip (i : Nat) (hi : ops[i]? = some oi) (hs : Region.noSelect ops = true) (hf : Region.free .any ops listed i = true) (hr : (Region.ready .any ops listed).contains i = true)
    (hw : Region.wanted oi (yielded ops a.tmps) = false) (hS : S w) (hQ : ∀ c a w, Q (.panic c) (a.put oi.dst undef) w → Q (.panic c) a w)
    (h : wpAnyH P .any ops Q S fuel (listed.setIfInBounds i true) (a.put oi.dst undef) w) : wpAnyH P .any ops Q S (fuel + 1) listed a w :=
  wpAnyH_take hi hs hf hr hQ (.inr ⟨hw, rfl⟩) hS h
theorem wpH_row {T : TypeId} {n : Nat} (hT : RowT P T n) (i : Nat) (hi : ops[i]? = some oi) (hs : Region.noSelect ops = true) (hf : Region.free .any ops listed i = true) (hr : (Region.ready .any ops listed).contains i = true)
    (hw : Region.wanted oi (yielded ops a.tmps) = true) (hS : S w) {vs : List Value} (hQ : ∀ c a w, Q (.panic c) (a.put oi.dst (.agg vs.toArray)) w → Q (.panic c) a w) (x : Operand) (ho : oi.op = .load T x) {b : Nat} (hx : a.eval x = .pointer (some ⟨b, 0, none⟩)) (hl : vs.length = n) (hB : ∀ w, S w → Blk w b vs.toArray)
    (h : wpAnyH P .any ops Q S fuel (listed.setIfInBounds i true) (a.put oi.dst (.agg vs.toArray)) w) : wpAnyH P .any ops Q S (fuel + 1) listed a w :=
  wpAnyH_take hi hs hf hr hQ (.inl ⟨hw, fun w hC => by
    unfold execOp
    simp only [ho, hx, Instr.loadAt, Instr.sureAddr, Sem.run_bind, Sem.run_pure, Result.andThen_ok, row_loadVar hT w hl (hB w hC)]⟩) hS h
theorem wpH_load (i : Nat) (u : Value) (hi : ops[i]? = some oi) (hs : Region.noSelect ops = true) (hf : Region.free .any ops listed i = true) (hr : (Region.ready .any ops listed).contains i = true)
    (hw : Region.wanted oi (yielded ops a.tmps) = true) (hS : S w) (hQ : ∀ c a w, Q (.panic c) (a.put oi.dst u) w → Q (.panic c) a w) (hv : ∀ w, S w → (execOp a.eval oi).run P w = .ok (.value u) w)
    (h : wpAnyH P .any ops Q S fuel (listed.setIfInBounds i true) (a.put oi.dst u) w) : wpAnyH P .any ops Q S (fuel + 1) listed a w :=
  wpAnyH_take hi hs hf hr hQ (.inl ⟨hw, hv⟩) hS h
theorem wpH_call (i : Nat) (hi : ops[i]? = some oi) (hr : Region.ready .any ops listed = [i]) (hw : Region.wanted oi (yielded ops a.tmps) = true) {f : FuncId} {args : Array Value} {R : Ending → World → Prop} (hc : Calls P f args w R)
    (hv : (execOp a.eval oi).run P w = .ok (.enter f args) w)
    (h : ∀ e w', R e w' → ∃ v, e = .returned v ∧ S w' ∧ wpAnyH P .any ops Q S fuel (listed.setIfInBounds i true) (a.put oi.dst v) w') : wpAnyH P .any ops Q S (fuel + 1) listed a w := by
  refine wpAnyH_all hr (by simp) (fun j hj => ?_)
  obtain rfl : j = i := by simpa using hj
  unfold wpOp
  simp only [hi, hw, if_true]
  refine .inl ?_
  unfold Oper.wp
  rw [hv, Oper.upon_enter]
  refine hc.mono fun e w' hR => ?_
  obtain ⟨v, rfl, h1, h2⟩ := h e w' hR
  exact ⟨h1, h2⟩
theorem wpH_op (i : Nat) (hi : ops[i]? = some oi) (hr : Region.ready .any ops listed = [i]) (hw : Region.wanted oi (yielded ops a.tmps) = true)
    (h : oi.wp P a w (fun a' w' => S w' ∧ wpAnyH P .any ops Q S fuel (listed.setIfInBounds i true) a' w') Q) : wpAnyH P .any ops Q S (fuel + 1) listed a w := by
  refine wpAnyH_all hr (by simp) (fun j hj => ?_)
  obtain rfl : j = i := by simpa using hj
  unfold wpOp
  simp only [hi, hw, if_true]
  exact .inl h
end
theorem wpH_start {P : Program} {id : Nat} {ops : Array Oper} {Q : Exit → Act → World → Prop} {a : Act} {w : World} (hm : P.follows .mixedOrders = true)
    (h : Below w.heap.size w w.drew → wpAnyH P .any ops Q (Below w.heap.size w) ops.size (Array.replicate ops.size false) a w.drew) : (Code.region id ops true).wp P Q a w :=
  wp_region_held_drew hm (Below.refl _ _).drew h

theorem wpH_startM {P : Program} {id : Nat} {ops : Array Oper} {Q : Exit → Act → World → Prop} {a : Act} {w : World} (l : List Nat) (hm : P.follows .mixedOrders = true)
    (h : Mod l w w.drew → wpAnyH P .any ops Q (Mod l w) ops.size (Array.replicate ops.size false) a w.drew) : (Code.region id ops true).wp P Q a w :=
  wp_region_held_drew hm (Mod.refl _ _).drew h

end Go.Proofs.YtbnjhfkmdejeaaaDoor

/- Lists of texts that are read, wherever they lie; held against one another; spoilt. -/
set_option linter.unusedSimpArgs false
set_option linter.unusedVariables false
namespace Go.Proofs.YtbnjhfkmdejeaaaDoor
open Go.RowKit Pl

/-- v reads as these texts. -/
def SS (w : World) (v : Value) (l : List Bs) : Prop :=
  ∃ a cap, v = .slice a l.length cap ∧ l.length ≤ cap ∧ cap ≤ maxLen ∧ (l ≠ [] → ∃ g off, a = some ⟨g, off, none⟩ ∧ g < w.heap.size ∧ SSrc w g off l)
theorem SS.nil (w : World) : SS w (.slice none 0 0) [] := ⟨none, 0, rfl, Nat.le_refl _, by unfold maxLen; omega, fun h => absurd rfl h⟩
theorem SS.of {w : World} {g off cap : Nat} {l : List Bs} (h1 : l.length ≤ cap) (h2 : cap ≤ maxLen) (h3 : g < w.heap.size) (h4 : SSrc w g off l) : SS w (.slice (some ⟨g, off, none⟩) l.length cap) l :=
  ⟨_, cap, rfl, h1, h2, fun _ => ⟨g, off, rfl, h3, h4⟩⟩
theorem SRow.ss {w : World} {base : Nat} {v : Value} {l : List Bs} (h : SRow w base v l) : SS w v l := by
  rcases h.cells with ⟨rfl, rfl⟩ | ⟨g, cap, rfl, h2, h3, h4, h5, h6, h7⟩
  · exact SS.nil w
  · exact SS.of h4 h5 h3 (fun i hi => by rw [Nat.zero_add]; exact h6 i hi)
theorem SS.keep {W w : World} {v : Value} {l : List Bs} (h : SS W v l) (hb : Below W.heap.size W w) : SS w v l := by
  obtain ⟨a, cap, h1, h2, h3, h4⟩ := h
  refine ⟨a, cap, h1, h2, h3, fun hl => ?_⟩
  obtain ⟨g, off, e, hg, hc⟩ := h4 hl
  exact ⟨g, off, e, Nat.lt_of_lt_of_le hg hb.size, fun i hi => (hb.cell (p := ⟨g, off + i, none⟩) hg).trans (hc i hi)⟩
theorem SS.form {w : World} {v : Value} {l : List Bs} (h : SS w v l) : ∃ a c, v = .slice a l.length c := by
  obtain ⟨a, cap, h1, _⟩ := h
  exact ⟨a, cap, h1⟩
theorem SS.small {w : World} {v : Value} {l : List Bs} (h : SS w v l) : l.length ≤ 9223372036854775807 := by
  obtain ⟨a, cap, h1, h2, h3, _⟩ := h
  unfold maxLen at h3; omega
theorem SRow.keep {W w : World} {b : Nat} {v : Value} {l : List Bs} (h : SRow W b v l) (hb : Below W.heap.size W w) : SRow w b v l := by
  refine h.kept (fun k hk => hb.block k ?_)
  rcases h.cells with ⟨rfl, _⟩ | ⟨g, cap, rfl, _, hg, _⟩
  · cases hk
  · cases hk; exact hg
/-- A place of it: the address reckoned, the text there. -/
theorem SS.at' {w : World} {a : Option Addr} {c : Nat} {l : List Bs} (h : SS w (.slice a l.length c) l) (i : Nat) (hi : i < l.length) :
    ∃ g off, a = some ⟨g, off, none⟩ ∧ g < w.heap.size ∧ w.cell? ⟨g, off + i, none⟩ = some (.string ⟨List.toArray (l.getD i [])⟩) := by
  obtain ⟨a', cap, h1, _, _, h5⟩ := h
  injection h1 with h1 _ _
  obtain ⟨g, off, e, hg, hc⟩ := h5 (by intro e; rw [e] at hi; simp at hi)
  exact ⟨g, off, h1.trans e, hg, hc i hi⟩
theorem SS.at {w : World} {a : Option Addr} {c : Nat} {l : List Bs} (h : SS w (.slice a l.length c) l) (i : Nat) (hi : i < l.length) :
    ∃ g off, a = some ⟨g, off, none⟩ ∧ w.cell? ⟨g, off + i, none⟩ = some (.string ⟨List.toArray (l.getD i [])⟩) := by
  obtain ⟨g, off, e, _, hc⟩ := h.at' i hi
  exact ⟨g, off, e, hc⟩

set_option maxRecDepth 100000 in
set_option maxHeartbeats 1000000 in
theorem sametexts_any (u v : Value) (l m : List Bs) (w : World) (hu : SS w u l) (hv : SS w v m) :
    Calls Tryd.prog 38 #[u, v] w fun e w' => e = .returned (.bool (sameL l m)) ∧ ∃ n, w' = w.drewN n := by
  obtain ⟨a, c, rfl⟩ := hu.form
  obtain ⟨b, d, rfl⟩ := hv.form
  have hls := hu.small
  generalize hr : sameL l m = r
  have HR := Lib.hid hr
  clear hr
  by_cases hl : l.length = m.length
  · have hl1 : ((l.length : Int) == (m.length : Int)) = true := by simp; omega
    have HL := Lib.hid hl
    clear hl
    go_enter Tryd.func38, Tryd.ntmps38
    go_wp2_with fail
    go_loopw [5, 6] (fun s5 s6 wr => ∃ (i : Nat) (q : Bool), i ≤ l.length ∧ s6 = .int .i64 i ∧ s5 = .bool q ∧ Hid ((q = true → l.take i = m.take i) ∧ (q = false → l ≠ m)) ∧ ∃ n, wr = w.drewN n) (fun _ s6 _ => l.length - (intOf s6).toNat)
    case atStart => exact ⟨0, true, by omega, rfl, rfl, Lib.hid ⟨fun _ => rfl, fun h => by cases h⟩, 0, rfl⟩
    case round =>
      obtain ⟨i, q, hi, rfl, rfl, HQ, nq, rfl⟩ := hrel
      cases q
      · have HZ : Hid (r = false) := Lib.hid (by rw [← HR.out]; simp [sameL, HQ.out.2 rfl])
        clear HQ
        go_wp2_with fail
        go_ret
        exact ⟨by rw [HZ.out]; rfl, nq, rfl⟩
      · by_cases hlt : i < l.length
        · have hlt' : (i : Int) < (l.length : Int) := by omega
          have hlm : i < m.length := by rw [← HL.out]; exact hlt
          have hlm' : (i : Int) < (m.length : Int) := by omega
          obtain ⟨g, off, rfl, c1⟩ := hu.at i hlt
          obtain ⟨g2, off2, rfl, c2⟩ := hv.at i hlm
          have HS : Hid (l.take (i + 1) = m.take (i + 1) ↔ l.getD i [] = m.getD i []) := Lib.hid (by
            rw [List.take_succ_eq_append_getElem hlt, List.take_succ_eq_append_getElem hlm, HQ.out.1 rfl, List.append_cancel_left_eq]
            simp [List.getD, List.getElem?_eq_getElem hlt, List.getElem?_eq_getElem hlm])
          have HD : Hid (l.getD i [] ≠ m.getD i [] → l ≠ m) := Lib.hid (fun h e => h (by rw [e]))
          generalize l.getD i [] = x at *
          generalize m.getD i [] = y at *
          have HU := Lib.hid hu
          have HV := Lib.hid hv
          clear hu hv
          go_wp2_with fail
          go_quiet (fail)
          go_wp2_with fail
          exact ⟨⟨i + 1, x == y, by omega, by go_num, rfl, Lib.hid ⟨fun h => HS.out.2 (by simpa using h), fun h => HD.out (by simpa using h)⟩, _, rfl⟩, by simp [intOf]; omega⟩
        · have hie : i = l.length := by omega
          have hd : decide ((i : Int) < (l.length : Int)) = false := by simp; omega
          have HZ : Hid (r = true) := Lib.hid (by
            have h := HQ.out.1 rfl
            rw [List.take_of_length_le (by omega), List.take_of_length_le (by rw [← HL.out]; omega)] at h
            rw [← HR.out]
            simp [sameL, h])
          clear HQ
          go_wp2_with fail
          go_ret
          exact ⟨by rw [HZ.out]; rfl, nq, rfl⟩
  · have hl1 : ((l.length : Int) == (m.length : Int)) = false := by simp; omega
    have HZ : Hid (r = false) := Lib.hid (by rw [← HR.out]; simp [sameL]; intro e; exact hl (by rw [e]))
    clear hl
    go_enter Tryd.func38, Tryd.ntmps38
    go_wp2_with fail
    go_loopw [5, 6] (fun s5 s6 wr => s6 = .int .i64 0 ∧ s5 = .bool false ∧ wr = w) (fun _ s6 _ => 0)
    case atStart => exact ⟨rfl, rfl, rfl⟩
    case round =>
      obtain ⟨rfl, rfl, rfl⟩ := hrel
      go_wp2_with fail
      go_ret
      exact ⟨by rw [HZ.out]; rfl, 0, rfl⟩
theorem sametexts_self (u v : Value) (l : List Bs) (w : World) (hu : SS w u l) (hv : SS w v l) :
    Calls Tryd.prog 38 #[u, v] w fun e w' => e = .returned (.bool true) ∧ ∃ n, w' = w.drewN n := by
  have h := sametexts_any u v l l w hu hv
  rw [show sameL l l = true from by simp [sameL]] at h
  exact h

set_option maxRecDepth 100000 in
set_option maxHeartbeats 1000000 in
theorem spoil_any (base : Nat) (v : Value) (l : List Bs) (w : World) (hv : SRow w base v l) :
    Calls Tryd.prog 21 #[v] w fun e w' => e = .returned (.tuple #[]) ∧ Mod v.ownBlock.toList w w' := by
  rcases hv.cells with ⟨rfl, rfl⟩ | ⟨g, cap, rfl, h1, h2, h3, h4, h5, h6⟩
  · go_enter Tryd.func21, Tryd.ntmps21
    go_wp2_with fail
    go_loopw [2] (fun s2 wr => s2 = .int .i64 0 ∧ wr = w) (fun s2 _ => 0)
    case atStart => exact ⟨rfl, rfl⟩
    case round =>
      obtain ⟨rfl, rfl⟩ := hrel
      go_wp2_with fail
      refine bodyPost_end (results_none rfl _ _ _) rfl ?_
      exact ⟨rfl, Mod.refl _ _⟩
  · unfold maxLen at h4
    have H5 := Lib.hid h5
    have H6 := Lib.hid h6
    clear h5 h6 hv
    go_enter Tryd.func21, Tryd.ntmps21
    go_wp2_with fail
    go_loopw [2] (fun s2 wr => ∃ i : Nat, i ≤ l.length ∧ s2 = .int .i64 i ∧ Hid (∀ j, j < l.length → ∃ x : Value, wr.cell? ⟨g, j, none⟩ = some x) ∧ Hid (∀ o, wr.frozen? ⟨g, o, none⟩ = false) ∧ Mod [g] w wr) (fun s2 _ => l.length - (intOf s2).toNat)
    case atStart => exact ⟨0, by omega, rfl, Lib.hid (fun j hj => ⟨_, H5.out j hj⟩), H6, Mod.refl _ _⟩
    case round =>
      obtain ⟨i, hi, rfl, HC, HF, hm⟩ := hrel
      by_cases hlt : i < l.length
      · have hlt' : (i : Int) < (l.length : Int) := by omega
        obtain ⟨x, hx⟩ := HC.out i hlt
        have hf := HF.out i
        go_wp2_with fail
        refine ⟨⟨i + 1, by omega, by go_num, Lib.hid (fun j hj => ?_), Lib.hid (fun o => by rw [World.frozen?_setCell]; exact HF.out o), hm.setCell (.inl (by simp)) _⟩, by simp [intOf]; omega⟩
        by_cases e : j = i
        · subst e; exact ⟨_, World.cell?_setCell_same _ _ _ hx⟩
        · obtain ⟨y, hy⟩ := HC.out j hj
          exact ⟨y, by rw [World.cell?_setCell_other _ _ _ _ (fun h => e (by injection h with _ h2 _; exact h2.symm))]; exact hy⟩
      · have hlt' : ¬ (i : Int) < (l.length : Int) := by omega
        go_wp2_with fail
        refine bodyPost_end (results_none rfl _ _ _) rfl ?_
        exact ⟨rfl, hm⟩

end Go.Proofs.YtbnjhfkmdejeaaaDoor
