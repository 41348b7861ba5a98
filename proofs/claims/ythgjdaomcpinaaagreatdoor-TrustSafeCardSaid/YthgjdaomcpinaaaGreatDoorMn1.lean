/- Plain. -/
set_option linter.unnecessarySimpa false

/- The document's answer for the layers 1, 2 (nibble, code), as plain functions on lists of bytes; no program in sight. -/
namespace Go.Proofs.YthgjdaomcpinaaaGreatDoor
namespace Pl

abbrev Bs := List UInt8

/-! ### layer 1 -/
def fit (p : Bs) : Bool := p.all fun c => decide (c.toNat ≤ 15)
def ofP (s : Bs) : Bs := s.flatMap fun c => [UInt8.ofNat (c.toNat / 16), UInt8.ofNat (c.toNat % 16)]
def joined : Bs → Bs
  | a :: b :: r => UInt8.ofNat (a.toNat * 16 + b.toNat) :: joined r
  | _ => []
def pack (p : Bs) (leaf : Bool) : Bs × Int :=
  if fit p = false then ([], 3)
  else if p.length % 2 = 1 then (UInt8.ofNat ((if leaf then 32 else 0) + 16 + (p.headD 0).toNat) :: joined p.tail, 0)
  else (UInt8.ofNat (if leaf then 32 else 0) :: joined p, 0)
def unpack : Bs → Bs × Bool × Int
  | [] => ([], false, 3)
  | c :: r =>
    if 3 < c.toNat / 16 ∨ (c.toNat / 16 % 2 = 0 ∧ c.toNat % 16 ≠ 0) then ([], false, 3)
    else ((if c.toNat / 16 % 2 = 1 then UInt8.ofNat (c.toNat % 16) :: ofP r else ofP r), decide (2 ≤ c.toNat / 16), 0)
theorem ofP_snoc (l : Bs) (c : UInt8) : ofP (l ++ [c]) = ofP l ++ [UInt8.ofNat (c.toNat / 16), UInt8.ofNat (c.toNat % 16)] := by simp [ofP]
theorem ofP_len (l : Bs) : (ofP l).length = 2 * l.length := by
  induction l with
  | nil => rfl
  | cons c r ih =>
    have : ofP (c :: r) = [UInt8.ofNat (c.toNat / 16), UInt8.ofNat (c.toNat % 16)] ++ ofP r := by simp [ofP]
    rw [this, List.length_append, ih]; simp; omega
theorem fit_take (p : Bs) (i : Nat) (h : i < p.length) : fit (p.take (i + 1)) = (fit (p.take i) && decide (p[i].toNat ≤ 15)) := by
  unfold fit
  rw [List.take_succ_eq_append_getElem h, List.all_append]
  simp
theorem fit_at (p : Bs) (h : fit p = true) (i : Nat) (hi : i < p.length) : p[i].toNat ≤ 15 := by
  have := List.all_eq_true.1 h p[i] (List.getElem_mem hi)
  simpa using this
theorem fit_not (p : Bs) (i : Nat) (hi : i < p.length) (h : 15 < p[i].toNat) : fit p = false := by
  cases hf : fit p with
  | false => rfl
  | true => have := fit_at p hf i hi; omega

/-! ### layer 2 -/
/-- The bytes of a number, the greatest first, without zeros ahead. -/
def digs : Nat → Nat → Bs
  | 0, _ => []
  | f + 1, n => if n = 0 then [] else digs f (n / 256) ++ [UInt8.ofNat (n % 256)]
theorem digs_step (f n : Nat) (h : 0 < n) : digs (f + 1) n = digs f (n / 256) ++ [UInt8.ofNat (n % 256)] := by
  rw [digs, if_neg (by omega)]
theorem digs_zero (f : Nat) : digs f 0 = [] := by cases f <;> rfl
def num (n : Nat) : Bs := UInt8.ofNat (digs 8 n).length :: digs 8 n
def text (s : Bs) : Bs := num s.length ++ s
def be (l : Bs) : Nat := l.foldl (fun a b => a * 256 + b.toNat) 0
theorem be_snoc (l : Bs) (c : UInt8) : be (l ++ [c]) = be l * 256 + c.toNat := by simp [be]
theorem foldl_be (l : Bs) : ∀ a : Nat, l.foldl (fun a b => a * 256 + b.toNat) a = a * 256 ^ l.length + be l := by
  induction l with
  | nil => intro a; simp [be]
  | cons c r ih =>
    intro a
    have h1 := ih (a * 256 + c.toNat)
    have h2 := ih c.toNat
    simp only [List.foldl_cons, be, Nat.zero_mul, Nat.zero_add, List.length_cons] at *
    rw [h1, h2, Nat.pow_succ, Nat.add_mul, Nat.mul_assoc, Nat.mul_comm 256]
    omega
theorem be_cons (c : UInt8) (r : Bs) : be (c :: r) = c.toNat * 256 ^ r.length + be r := by
  have := foldl_be r c.toNat
  simpa [be] using this
theorem be_lt (l : Bs) : be l < 256 ^ l.length := by
  induction l with
  | nil => simp [be]
  | cons c r ih =>
    rw [be_cons, List.length_cons, Nat.pow_succ]
    have := c.toNat_lt
    have h : c.toNat * 256 ^ r.length ≤ 255 * 256 ^ r.length := Nat.mul_le_mul_right _ (by omega)
    omega
theorem be_bound (b : Bs) (hb : b.length ≤ 8) (h8 : b.length = 8 → (b.headD 0).toNat ≤ 127) (i : Nat) (hi : i < b.length) : be (b.take i) < 36028797018963968 := by
  have h1 := be_lt (b.take i)
  have hl : (b.take i).length = i := by simp; omega
  rw [hl] at h1
  by_cases h7 : i ≤ 6
  · have : 256 ^ i ≤ 256 ^ 6 := Nat.pow_le_pow_right (by decide) h7
    omega
  · have hi7 : i = 7 := by omega
    subst hi7
    have hb8 : b.length = 8 := by omega
    match b, hb8, h8 hb8 with
    | c :: r, hr, hc =>
      simp only [List.headD_cons] at hc
      rw [List.take_succ_cons, be_cons]
      have h2 := be_lt (r.take 6)
      have h3 : (r.take 6).length = 6 := by simp at hr ⊢; omega
      rw [h3] at h2 ⊢
      have : c.toNat * 256 ^ 6 ≤ 127 * 256 ^ 6 := Nat.mul_le_mul_right _ hc
      omega
/-- The number at the beginning, what is behind it, and what is wrong. -/
def take (s : Bs) : Nat × Bs × Int :=
  match s with
  | [] => (0, [], 20)
  | k :: r =>
    if 8 < k.toNat then (0, [], 3)
    else if r.length < k.toNat then (0, [], 20)
    else if (0 < k.toNat ∧ r.headD 0 = 0) ∨ (k.toNat = 8 ∧ 127 < (r.headD 0).toNat) then (0, [], 3)
    else (be (r.take k.toNat), r.drop k.toNat, 0)
/-- Likewise a text. -/
def tx (s : Bs) (most : Int) : Bs × Bs × Int :=
  if (take s).2.2 ≠ 0 then ([], [], (take s).2.2)
  else if most < (take s).1 then ([], [], 2)
  else if (take s).2.1.length < (take s).1 then ([], [], 20)
  else ((take s).2.1.take (take s).1, (take s).2.1.drop (take s).1, 0)
/-! ### The reader: what is left, and the code. Each gives: the answer, what is left then, the code then. -/
def mBytes (s : Bs) (c n : Int) : Bs × Bs × Int :=
  if c ≠ 0 then ([], s, c) else if n < 0 then ([], s, 1) else if (s.length : Int) < n then ([], s, 20) else (s.take n.toNat, s.drop n.toNat, 0)
def mNum (s : Bs) (c : Int) : Nat × Bs × Int :=
  if c ≠ 0 then (0, s, c) else if (take s).2.2 ≠ 0 then (0, s, (take s).2.2) else ((take s).1, (take s).2.1, 0)
def mText (s : Bs) (c most : Int) : Bs × Bs × Int :=
  if c ≠ 0 then ([], s, c) else if (tx s most).2.2 ≠ 0 then ([], s, (tx s most).2.2) else ((tx s most).1, (tx s most).2.1, 0)
def mEnd (s : Bs) (c : Int) : Int := if c = 0 ∧ s ≠ [] then 3 else c

theorem take_le (s : Bs) (h : (take s).2.2 = 0) : (take s).1 < 9223372036854775808 ∧ ∃ k, 1 ≤ k ∧ k ≤ s.length ∧ (take s).2.1 = s.drop k := by
  cases s with
  | nil => exact absurd h (by decide)
  | cons k r =>
    unfold take at h ⊢
    simp only at h ⊢
    split at h
    · exact absurd h (by decide)
    · rename_i h8
      split at h
      · exact absurd h (by decide)
      · rename_i hr
        split at h
        · exact absurd h (by decide)
        · rename_i hz
          rw [if_neg h8, if_neg hr, if_neg hz]
          refine ⟨?_, k.toNat + 1, by omega, by simp; omega, by simp⟩
          have hl : (r.take k.toNat).length = k.toNat := by simp; omega
          by_cases h0 : k.toNat = 0
          · simp [h0, be]
          · have hb := be_bound (r.take k.toNat) (by omega) (fun h => by
              have h1 : (r.take k.toNat).headD 0 = r.headD 0 := by
                cases r with
                | nil => simp
                | cons a r =>
                  obtain ⟨n, hn⟩ : ∃ n, k.toNat = n + 1 := ⟨k.toNat - 1, by omega⟩
                  rw [hn]; rfl
              rw [h1]
              have := fun h' => hz (.inr ⟨by omega, h'⟩)
              omega) (k.toNat - 1) (by omega)
            have hs : be (r.take k.toNat) = be ((r.take k.toNat).take (k.toNat - 1)) * 256 + ((r.take k.toNat)[k.toNat - 1]'(by omega)).toNat := by
              have h2 : (r.take k.toNat).take (k.toNat - 1 + 1) = r.take k.toNat := List.take_of_length_le (by omega)
              rw [← be_snoc, ← List.take_succ_eq_append_getElem (by omega), h2]
            have := ((r.take k.toNat)[k.toNat - 1]'(by omega)).toNat_lt
            simp only [hs]
            omega
/-! ### layer 8 -/
/-- The first n kids that are there. -/
def kidsTo (kid : Nat → Bs) (n : Nat) : List Bs := ((List.range n).map kid).filter fun s => !s.isEmpty
def kidsF (kid : Nat → Bs) : List Bs := kidsTo kid 16
def sameL (a b : List Bs) : Bool := decide (a = b)
def kidL (kid : Nat → Bs) : List Bs := (List.range 16).map kid
def noKids (kid : Nat → Bs) : Bool := sameL (kidL kid) (List.replicate 16 [])
def oneKidX (kid : Nat → Bs) (x : Bs) : Bool := sameL (kidL kid) (x :: List.replicate 15 [])
def oneKid (kid : Nat → Bs) : Bool := oneKidX kid (kid 0)
def pathOk (p : Bs) (least : Int) : Bool := fit p && decide (least ≤ p.length) && decide (p.length ≤ 16)
def all32 (l : List Bs) : Bool := l.all fun s => decide (s.length = 32)
def chk (kind : Int) (path val : Bs) (kid : Nat → Bs) : Bool :=
  if kind = 1 then noKids kid && pathOk path 0 && !val.isEmpty && decide (val.length ≤ 32)
  else if kind = 2 then oneKidX kid (kid 0) && all32 [kid 0] && pathOk path 1 && val.isEmpty
  else if kind = 3 then path.isEmpty && all32 (kidsF kid) && decide (2 ≤ (kidsF kid).length + (if val.isEmpty then 0 else 1)) && decide (val.length ≤ 32)
  else false
def chkI (b : Bool) : Int := if b then 0 else 80
theorem kidsTo_succ (kid : Nat → Bs) (n : Nat) : kidsTo kid (n + 1) = kidsTo kid n ++ (if kid n = [] then [] else [kid n]) := by
  unfold kidsTo
  rw [List.range_succ, List.map_append, List.filter_append]
  congr 1
  simp [List.filter_cons]
theorem kidsTo_len (kid : Nat → Bs) (n : Nat) : (kidsTo kid n).length ≤ n := by
  unfold kidsTo
  refine Nat.le_trans (List.length_filter_le _ _) ?_
  simp
/-- The bits of the kids that are there, as a number: the first of n is the greatest. -/
def bitv (kid : Nat → Bs) (i : Nat) : Nat := if kid i = [] then 0 else 1
def numTo (kid : Nat → Bs) : Nat → Nat
  | 0 => 0
  | n + 1 => numTo kid n * 2 + bitv kid n
def hiK (kid : Nat → Bs) : Nat := numTo kid 8
def loK (kid : Nat → Bs) : Nat := numTo kid 16 % 256
def flatTo (kid : Nat → Bs) (n : Nat) : Bs := (kidsTo kid n).flatten
theorem numTo_lt (kid : Nat → Bs) (n : Nat) : numTo kid n < 2 ^ n := by
  induction n with
  | zero => simp [numTo]
  | succ n ih =>
    have : bitv kid n ≤ 1 := by unfold bitv; split <;> omega
    rw [numTo, Nat.pow_succ]; omega
theorem hiK_lt (kid : Nat → Bs) : hiK kid < 256 := numTo_lt kid 8
theorem loK_lt (kid : Nat → Bs) : loK kid < 256 := Nat.mod_lt _ (by decide)
theorem numTo_add (kid : Nat → Bs) (n m : Nat) : numTo kid (n + m) = numTo kid n * 2 ^ m + numTo (fun i => kid (n + i)) m := by
  induction m with
  | zero => simp [numTo]
  | succ m ih =>
    rw [← Nat.add_assoc, numTo, ih, numTo, Nat.pow_succ]
    have : bitv kid (n + m) = bitv (fun i => kid (n + i)) m := rfl
    rw [this, Nat.add_mul, Nat.mul_assoc]; omega
theorem numTo_16 (kid : Nat → Bs) : numTo kid 16 = hiK kid * 256 + loK kid := by
  have h := numTo_add kid 8 8
  have h2 := numTo_lt (fun i => kid (8 + i)) 8
  unfold hiK loK
  simp only [Nat.reduceAdd, Nat.reducePow] at h h2 ⊢
  omega
theorem numTo_shift (kid : Nat → Bs) (k : Nat) (hk : k < 16) (he : kid k ≠ []) : (numTo kid k * 2 ^ (16 - k)) ||| 2 ^ (15 - k) = numTo kid (k + 1) * 2 ^ (16 - (k + 1)) := by
  have h1 : 16 - k = (15 - k) + 1 := by omega
  have h2 : 16 - (k + 1) = 15 - k := by omega
  rw [h1, h2, numTo, bitv, if_neg he]
  have h3 := Nat.two_pow_add_eq_or_of_lt (i := (15 - k) + 1) (b := 2 ^ (15 - k)) (Nat.pow_lt_pow_right (by omega) (by omega)) (numTo kid k)
  rw [Nat.mul_comm (numTo kid k), ← h3, Nat.pow_succ, Nat.add_mul, Nat.one_mul, Nat.mul_comm (numTo kid k * 2), Nat.mul_assoc, Nat.mul_comm 2 (numTo kid k)]
theorem numTo_same (kid : Nat → Bs) (k : Nat) (hk : k < 16) (he : kid k = []) : numTo kid k * 2 ^ (16 - k) = numTo kid (k + 1) * 2 ^ (16 - (k + 1)) := by
  have h1 : 16 - k = (15 - k) + 1 := by omega
  have h2 : 16 - (k + 1) = 15 - k := by omega
  rw [h1, h2, numTo, bitv, if_pos he, Nat.pow_succ, Nat.add_zero, Nat.mul_assoc, Nat.mul_comm 2]
theorem numTo_le (kid : Nat → Bs) (k : Nat) (hk : k ≤ 16) : numTo kid k * 2 ^ (16 - k) < 65536 := by
  have h := numTo_lt kid k
  have h2 : 2 ^ k * 2 ^ (16 - k) = 65536 := by rw [← Nat.pow_add, Nat.add_sub_cancel' hk]
  rw [← h2]
  exact Nat.mul_lt_mul_of_pos_right h (Nat.two_pow_pos _)
/-- The bytes of a node that may be. -/
def enc (kind : Int) (path val : Bs) (kid : Nat → Bs) : Bs :=
  if kind = 3 then [3, UInt8.ofNat (hiK kid), UInt8.ofNat (loK kid)] ++ (kidsF kid).flatten ++ text val
  else if kind = 1 then 1 :: (text (pack path true).1 ++ text val)
  else 2 :: (text (pack path false).1 ++ kid 0)
def encR (kind : Int) (path val : Bs) (kid : Nat → Bs) : Bs × Int := if chk kind path val kid then (enc kind path val kid, 0) else ([], 80)
theorem joined_len' (s : Bs) : (joined s).length ≤ s.length := by
  induction s using joined.induct with
  | case1 a b r ih => simp [joined] at ih ⊢; omega
  | case2 s h => 
    rw [joined.eq_def]
    split
    · rename_i a b r; exact absurd rfl (h a b r)
    · simp
theorem pack_len (p : Bs) (leaf : Bool) : (pack p leaf).1.length ≤ p.length + 1 := by
  unfold pack
  have h1 := joined_len' p
  have h2 := joined_len' p.tail
  have h3 : p.tail.length ≤ p.length := by simp
  split
  · simp
  · split
    · simp at *; omega
    · simp; omega
theorem text_len (s : Bs) : (text s).length ≤ s.length + 9 := by
  have : ∀ f m, (digs f m).length ≤ f := by
    intro f
    induction f with
    | zero => intro m; simp [digs]
    | succ f ih =>
      intro m
      unfold digs
      split
      · simp
      · have := ih (m / 256); simp; omega
  have := this 8 s.length
  simp [text, num]; omega
/-- The kids by the bits, out of a reader: the first k. -/
def upd (kid : Nat → Bs) (k : Nat) (x : Bs) : Nat → Bs := fun i => if i = k then x else kid i
def noK : Nat → Bs := fun _ => []
def rdKids (set : Nat) (s : Bs) (c : Int) : Nat → (Nat → Bs) × Bs × Int
  | 0 => (noK, s, c)
  | k + 1 =>
    if set / 2 ^ (15 - k) % 2 = 1 then (upd (rdKids set s c k).1 k (mBytes (rdKids set s c k).2.1 (rdKids set s c k).2.2 32).1, (mBytes (rdKids set s c k).2.1 (rdKids set s c k).2.2 32).2)
    else rdKids set s c k
theorem mText_len (s : Bs) (c most : Int) (h0 : 0 ≤ most) : ((mText s c most).1.length : Int) ≤ most := by
  unfold mText
  split
  · simpa using h0
  · split
    · simpa using h0
    · unfold tx
      split
      · simpa using h0
      · split
        · simpa using h0
        · split
          · simpa using h0
          · simp; omega
/-- A node. -/
structure Nd where
  kind : Int
  path : Bs
  val : Bs
  kid : Nat → Bs
def ndZ : Nd := ⟨0, [], [], noK⟩
/-- What a branch's bytes tell, behind its kind and its bits: the node, what is left, the code. -/
def rdB (set : Nat) (r : Bs) : Nd × Bs × Int :=
  (⟨3, [], (mText (rdKids set r 0 16).2.1 (rdKids set r 0 16).2.2 32).1, (rdKids set r 0 16).1⟩, (mText (rdKids set r 0 16).2.1 (rdKids set r 0 16).2.2 32).2)
def rdL (r : Bs) (c : Int) : Nd × Bs × Int :=
  (⟨1, (unpack (mText r c 16).1).1, (mText (mText r c 16).2.1 (mText r c 16).2.2 32).1, noK⟩, (mText (mText r c 16).2.1 (mText r c 16).2.2 32).2)
def rdE (k : Int) (r : Bs) (c : Int) : Nd × Bs × Int :=
  (⟨k, (unpack (mText r c 16).1).1, [], upd noK 0 (mBytes (mText r c 16).2.1 (mText r c 16).2.2 32).1⟩, (mBytes (mText r c 16).2.1 (mText r c 16).2.2 32).2)
def decEnd (x : Nd × Bs × Int) (f : Bool) : Nd × Int :=
  if mEnd x.2.1 x.2.2 = 0 ∧ f = true ∧ chk x.1.kind x.1.path x.1.val x.1.kid = true then (x.1, 0) else (ndZ, 80)
/-- The node of bytes. -/
def dec : Bs → Nd × Int
  | [] => (ndZ, 80)
  | k :: r =>
    if k = 3 then match r with
      | a :: b :: r' => decEnd (rdB (a.toNat * 256 + b.toNat) r') true
      | _ => (ndZ, 80)
    else if k = 1 then decEnd (rdL r 0) (decide ((unpack (mText r 0 16).1).2.2 = 0) && (unpack (mText r 0 16).1).2.1)
    else decEnd (rdE k.toNat r 0) (decide ((unpack (mText r 0 16).1).2.2 = 0) && !(unpack (mText r 0 16).1).2.1)
theorem unpack_len (s : Bs) : (unpack s).1.length ≤ 2 * s.length := by
  cases s with
  | nil => simp [unpack]
  | cons c r =>
    have h := ofP_len r
    by_cases h1 : 3 < c.toNat / 16 ∨ (c.toNat / 16 % 2 = 0 ∧ c.toNat % 16 ≠ 0)
    · rw [unpack, if_pos h1]; simp
    · rw [unpack, if_neg h1]
      by_cases h2 : c.toNat / 16 % 2 = 1
      · simp [h2, h]; omega
      · simp [h2, h]; omega
/-- The document's answer: may a node be? -/
def fineR (kind : Int) (path val : Bs) (kid : Nat → Bs) : Bool :=
  if all32 (kidsF kid) = false then false
  else if fit path = false ∨ 16 < path.length ∨ 32 < val.length then false
  else if kind = 1 then decide ((kidsF kid).length = 0) && !val.isEmpty
  else if kind = 2 then decide ((kidsF kid).length = 1) && !(kid 0).isEmpty && decide (1 ≤ path.length) && val.isEmpty
  else if kind = 3 then decide (path.length = 0) && (decide (2 ≤ (kidsF kid).length) || decide ((kidsF kid).length = 1) && !val.isEmpty)
  else false
theorem flat_succ (kid : Nat → Bs) (k : Nat) : (kidsTo kid (k + 1)).flatten = (kidsTo kid k).flatten ++ kid k := by
  rw [kidsTo_succ, List.flatten_append]
  by_cases h : kid k = []
  · simp [h]
  · simp [h]
theorem loK_eq (kid : Nat → Bs) : loK kid = numTo (fun i => kid (8 + i)) 8 := by
  have h := numTo_add kid 8 8
  have h2 := numTo_lt (fun i => kid (8 + i)) 8
  unfold loK
  simp only [Nat.reduceAdd, Nat.reducePow] at h h2 ⊢
  omega
def hiT (kid : Nat → Bs) (k : Nat) : Nat := numTo kid (min k 8)
def loT (kid : Nat → Bs) (k : Nat) : Nat := numTo (fun i => kid (8 + i)) (k - 8)
theorem hiT_lo (kid : Nat → Bs) (k : Nat) (h : k < 8) : hiT kid (k + 1) = hiT kid k * 2 + bitv kid k ∧ loT kid (k + 1) = loT kid k := by
  unfold hiT loT
  rw [show min (k + 1) 8 = k + 1 from by omega, show min k 8 = k from by omega, numTo, show k + 1 - 8 = 0 from by omega, show k - 8 = 0 from by omega]
  exact ⟨rfl, rfl⟩
theorem loT_hi (kid : Nat → Bs) (k : Nat) (h : 8 ≤ k) : loT kid (k + 1) = loT kid k * 2 + bitv kid k ∧ hiT kid (k + 1) = hiT kid k := by
  unfold hiT loT
  rw [show min (k + 1) 8 = 8 from by omega, show min k 8 = 8 from by omega, show k + 1 - 8 = (k - 8) + 1 from by omega, numTo]
  refine ⟨?_, rfl⟩
  have : bitv (fun i => kid (8 + i)) (k - 8) = bitv kid k := by
    have h8 : 8 + (k - 8) = k := by omega
    simp [bitv, h8]
  rw [this]
theorem hiT_lt (kid : Nat → Bs) (k : Nat) : hiT kid k < 256 := Nat.lt_of_lt_of_le (numTo_lt kid (min k 8)) (Nat.pow_le_pow_right (by omega) (Nat.min_le_right _ _))
theorem loT_lt (kid : Nat → Bs) (k : Nat) (h : k ≤ 16) : loT kid k < 256 := Nat.lt_of_lt_of_le (numTo_lt _ (k - 8)) (Nat.pow_le_pow_right (by omega) (show k - 8 ≤ 8 by omega))
end Pl
end Go.Proofs.YthgjdaomcpinaaaGreatDoor
