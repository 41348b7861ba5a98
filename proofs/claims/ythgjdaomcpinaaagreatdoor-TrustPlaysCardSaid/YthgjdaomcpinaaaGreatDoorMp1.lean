/- Plain, Back, ListP, Kit, Bytes. -/
import Derived.WalkKit
import Derived.ProofKit
import Derived.Outline
import Derived.WalkSpells
import Derived.WalkLawsBesides
import Derived.Deep.QuietTactic
import Derived.BigQuiet
import Derived.RowKit3
import Derived.Lib.Hide
import Derived.Lib.MinMax
import Derived.Lib.SmallJoins
import Derived.Deep.DeepCutAuto
import Derived.Deep.LoopGhost
import Derived.Deep.RegionHeld3
import Derived.Deep.RegionWith
import Derived.StillTailTactics
import Derived.Test.YthgjdaomcpinaaaGreatDoorRows
import Derived.Deep.AppendLies
import Derived.Deep.RegionLaw
import Derived.Laws.BytesArg
set_option linter.unnecessarySimpa false
set_option linter.unusedSimpArgs false
set_option linter.unusedVariables false
set_option maxRecDepth 100000
set_option maxHeartbeats 32000000
namespace Go.Proofs.YthgjdaomcpinaaaGreatDoor
namespace Pl
abbrev Bs := List UInt8
def fit (p : Bs) : Bool := p.all fun c => decide (c.toNat ≤ 15)
def ofP (s : Bs) : Bs := s.flatMap fun c => [UInt8.ofNat (c.toNat / 16), UInt8.ofNat (c.toNat % 16)]
def joined : Bs → Bs
 | a :: b :: r => UInt8.ofNat (a.toNat * 16 + b.toNat) :: joined r
 | _ => []
def pack (p : Bs) (leaf : Bool) : Bs × Int :=
 if fit p = false then ([], 3)
 else if p.length % 2 = 1 then (UInt8.ofNat ((if leaf then 32 else 0) + 16 + (p.headD 0).toNat) :: joined p.tail, 0)
 else (UInt8.ofNat (if leaf then 32 else 0) :: joined p, 0)
def unpack : Bs → Bs × Bool × Int
 | [] => ([], false, 3)
 | c :: r =>
  if 3 < c.toNat / 16 ∨ (c.toNat / 16 % 2 = 0 ∧ c.toNat % 16 ≠ 0) then ([], false, 3)
  else ((if c.toNat / 16 % 2 = 1 then UInt8.ofNat (c.toNat % 16) :: ofP r else ofP r), decide (2 ≤ c.toNat / 16), 0)
def digs : Nat → Nat → Bs
 | 0, _ => []
 | f + 1, n => if n = 0 then [] else digs f (n / 256) ++ [UInt8.ofNat (n % 256)]
theorem digs_step (f n : Nat) (h : 0 < n) : digs (f + 1) n = digs f (n / 256) ++ [UInt8.ofNat (n % 256)] := by
 rw [digs, if_neg (by omega)]
theorem digs_zero (f : Nat) : digs f 0 = [] := by cases f <;> rfl
def num (n : Nat) : Bs := UInt8.ofNat (digs 8 n).length :: digs 8 n
def text (s : Bs) : Bs := num s.length ++ s
def be (l : Bs) : Nat := l.foldl (fun a b => a * 256 + b.toNat) 0
theorem be_snoc (l : Bs) (c : UInt8) : be (l ++ [c]) = be l * 256 + c.toNat := by simp [be]
theorem foldl_be (l : Bs) : ∀ a : Nat, l.foldl (fun a b => a * 256 + b.toNat) a = a * 256 ^ l.length + be l := by
 induction l with
 | nil => intro a; simp [be]
 | cons c r ih =>
  intro a
  have h1 := ih (a * 256 + c.toNat)
  have h2 := ih c.toNat
  simp only [List.foldl_cons, be, Nat.zero_mul, Nat.zero_add, List.length_cons] at *
  rw [h1, h2, Nat.pow_succ, Nat.add_mul, Nat.mul_assoc, Nat.mul_comm 256]
  omega
theorem be_cons (c : UInt8) (r : Bs) : be (c :: r) = c.toNat * 256 ^ r.length + be r := by
 have := foldl_be r c.toNat
 simpa [be] using this
theorem be_lt (l : Bs) : be l < 256 ^ l.length := by
 induction l with
 | nil => simp [be]
 | cons c r ih =>
  rw [be_cons, List.length_cons, Nat.pow_succ]
  have := c.toNat_lt
  have h : c.toNat * 256 ^ r.length ≤ 255 * 256 ^ r.length := Nat.mul_le_mul_right _ (by omega)
  omega
theorem be_bound (b : Bs) (hb : b.length ≤ 8) (h8 : b.length = 8 → (b.headD 0).toNat ≤ 127) (i : Nat) (hi : i < b.length) : be (b.take i) < 36028797018963968 := by
 have h1 := be_lt (b.take i)
 have hl : (b.take i).length = i := by simp; omega
 rw [hl] at h1
 by_cases h7 : i ≤ 6
 ·have : 256 ^ i ≤ 256 ^ 6 := Nat.pow_le_pow_right (by decide) h7
  omega
 ·have hi7 : i = 7 := by omega
  subst hi7
  have hb8 : b.length = 8 := by omega
  match b, hb8, h8 hb8 with
  | c :: r, hr, hc =>
   simp only [List.headD_cons] at hc
   rw [List.take_succ_cons, be_cons]
   have h2 := be_lt (r.take 6)
   have h3 : (r.take 6).length = 6 := by simp at hr ⊢; omega
   rw [h3] at h2 ⊢
   have : c.toNat * 256 ^ 6 ≤ 127 * 256 ^ 6 := Nat.mul_le_mul_right _ hc
   omega
def take (s : Bs) : Nat × Bs × Int :=
 match s with
 | [] => (0, [], 20)
 | k :: r =>
  if 8 < k.toNat then (0, [], 3)
  else if r.length < k.toNat then (0, [], 20)
  else if (0 < k.toNat ∧ r.headD 0 = 0) ∨ (k.toNat = 8 ∧ 127 < (r.headD 0).toNat) then (0, [], 3)
  else (be (r.take k.toNat), r.drop k.toNat, 0)
def tx (s : Bs) (most : Int) : Bs × Bs × Int :=
 if (take s).2.2 ≠ 0 then ([], [], (take s).2.2)
 else if most < (take s).1 then ([], [], 2)
 else if (take s).2.1.length < (take s).1 then ([], [], 20)
 else ((take s).2.1.take (take s).1, (take s).2.1.drop (take s).1, 0)
def mBytes (s : Bs) (c n : Int) : Bs × Bs × Int :=
 if c ≠ 0 then ([], s, c) else if n < 0 then ([], s, 1) else if (s.length : Int) < n then ([], s, 20) else (s.take n.toNat, s.drop n.toNat, 0)
def mNum (s : Bs) (c : Int) : Nat × Bs × Int :=
 if c ≠ 0 then (0, s, c) else if (take s).2.2 ≠ 0 then (0, s, (take s).2.2) else ((take s).1, (take s).2.1, 0)
def mText (s : Bs) (c most : Int) : Bs × Bs × Int :=
 if c ≠ 0 then ([], s, c) else if (tx s most).2.2 ≠ 0 then ([], s, (tx s most).2.2) else ((tx s most).1, (tx s most).2.1, 0)
def mEnd (s : Bs) (c : Int) : Int := if c = 0 ∧ s ≠ [] then 3 else c
theorem take_le (s : Bs) (h : (take s).2.2 = 0) : (take s).1 < 9223372036854775808 ∧ ∃ k, 1 ≤ k ∧ k ≤ s.length ∧ (take s).2.1 = s.drop k := by
 cases s with
 | nil => exact absurd h (by decide)
 | cons k r =>
  unfold take at h ⊢
  simp only at h ⊢
  split at h
  ·exact absurd h (by decide)
  ·rename_i h8
   split at h
   ·exact absurd h (by decide)
   ·rename_i hr
    split at h
    ·exact absurd h (by decide)
    ·rename_i hz
     rw [if_neg h8, if_neg hr, if_neg hz]
     refine ⟨?_, k.toNat + 1, by omega, by simp; omega, by simp⟩
     have hl : (r.take k.toNat).length = k.toNat := by simp; omega
     by_cases h0 : k.toNat = 0
     ·simp [h0, be]
     ·have hb := be_bound (r.take k.toNat) (by omega) (fun h => by
       have h1 : (r.take k.toNat).headD 0 = r.headD 0 := by
        cases r with
        | nil => simp
        | cons a r =>
         obtain ⟨n, hn⟩ : ∃ n, k.toNat = n + 1 := ⟨k.toNat - 1, by omega⟩
         rw [hn]; rfl
       rw [h1]
       have := fun h' => hz (.inr ⟨by omega, h'⟩)
       omega) (k.toNat - 1) (by omega)
      have hs : be (r.take k.toNat) = be ((r.take k.toNat).take (k.toNat - 1)) * 256 + ((r.take k.toNat)[k.toNat - 1]'(by omega)).toNat := by
       have h2 : (r.take k.toNat).take (k.toNat - 1 + 1) = r.take k.toNat := List.take_of_length_le (by omega)
       rw [← be_snoc, ← List.take_succ_eq_append_getElem (by omega), h2]
      have := ((r.take k.toNat)[k.toNat - 1]'(by omega)).toNat_lt
      simp only [hs]
      omega
def kidsTo (kid : Nat → Bs) (n : Nat) : List Bs := ((List.range n).map kid).filter fun s => !s.isEmpty
def kidsF (kid : Nat → Bs) : List Bs := kidsTo kid 16
def sameL (a b : List Bs) : Bool := decide (a = b)
def bitv (kid : Nat → Bs) (i : Nat) : Nat := if kid i = [] then 0 else 1
def numTo (kid : Nat → Bs) : Nat → Nat
 | 0 => 0
 | n + 1 => numTo kid n * 2 + bitv kid n
def hiK (kid : Nat → Bs) : Nat := numTo kid 8
def loK (kid : Nat → Bs) : Nat := numTo kid 16 % 256
def enc (kind : Int) (path val : Bs) (kid : Nat → Bs) : Bs :=
 if kind = 3 then [3, UInt8.ofNat (hiK kid), UInt8.ofNat (loK kid)] ++ (kidsF kid).flatten ++ text val
 else if kind = 1 then 1 :: (text (pack path true).1 ++ text val)
 else 2 :: (text (pack path false).1 ++ kid 0)
theorem text_len (s : Bs) : (text s).length ≤ s.length + 9 := by
 have : ∀ f m, (digs f m).length ≤ f := by
  intro f
  induction f with
  | zero => intro m; simp [digs]
  | succ f ih =>
   intro m
   unfold digs
   split
   ·simp
   ·have := ih (m / 256); simp; omega
 have := this 8 s.length
 simp [text, num]; omega
structure Nd where
 kind : Int
 path : Bs
 val : Bs
 kid : Nat → Bs
end Pl
end Go.Proofs.YthgjdaomcpinaaaGreatDoor
namespace Go.Proofs.YthgjdaomcpinaaaGreatDoor
namespace Pl
theorem digs_len : ∀ f n, (digs f n).length ≤ f
 | 0, n => by simp [digs]
 | f + 1, n => by
  unfold digs
  split
  ·simp
  ·have := digs_len f (n / 256); simp; omega
theorem be_digs : ∀ f n, n < 256 ^ f → be (digs f n) = n
 | 0, n, h => by simp at h; subst h; simp [digs, be]
 | f + 1, n, h => by
  by_cases h0 : n = 0
  ·subst h0; simp [digs, be]
  ·rw [digs_step f n (by omega), be_snoc, be_digs f (n / 256) (by rw [Nat.pow_succ] at h; omega)]
   simp; omega
theorem digs_head : ∀ f n, 0 < n → n < 256 ^ f → (digs f n).headD 0 ≠ 0
 | 0, n, h, h2 => by simp at h2; omega
 | f + 1, n, h, h2 => by
  rw [digs_step f n h]
  by_cases h0 : n / 256 = 0
  ·rw [h0, digs_zero]
   simp only [List.nil_append, List.headD_cons]
   intro e
   have := congrArg UInt8.toNat e
   simp at this
   omega
  ·have ih := digs_head f (n / 256) (by omega) (by rw [Nat.pow_succ] at h2; omega)
   cases hd : digs f (n / 256) with
   | nil => rw [hd] at ih; exact absurd rfl ih
   | cons a r => rw [hd] at ih; simpa using ih
theorem take_num (n : Nat) (h : n < 9223372036854775808) (r : Bs) : take (num n ++ r) = (n, r, 0) := by
 have h1 := digs_len 8 n
 have h2 := be_digs 8 n (by omega)
 have hk : (UInt8.ofNat (digs 8 n).length).toNat = (digs 8 n).length := by simp; omega
 show take (UInt8.ofNat (digs 8 n).length :: (digs 8 n ++ r)) = _
 unfold take
 simp only [hk]
 rw [if_neg (by omega), if_neg (by simp)]
 have ht : (digs 8 n ++ r).take (digs 8 n).length = digs 8 n := by simp
 have hd : (digs 8 n ++ r).drop (digs 8 n).length = r := by simp
 rw [ht, hd, h2, if_neg]
 rintro (⟨h3, h4⟩ | ⟨h3, h4⟩)
 ·have hn : 0 < n := by
   rcases Nat.eq_zero_or_pos n with h0 | h0
   ·subst h0; rw [digs_zero] at h3; simp at h3
   ·exact h0
  have := digs_head 8 n hn (by omega)
  cases hd : digs 8 n with
  | nil => rw [hd] at h3; simp at h3
  | cons a q => rw [hd] at this h4; simp at this h4; exact this h4
 ·cases hd : digs 8 n with
  | nil => rw [hd] at h3; simp at h3
  | cons a q =>
   rw [hd] at h2 h4 h3
   rw [be_cons] at h2
   simp at h3 h4
   rw [h3] at h2
   omega
theorem tx_text (t : Bs) (most : Int) (h : t.length < 9223372036854775808) (hm : (t.length : Int) ≤ most) (r : Bs) : tx (text t ++ r) most = (t, r, 0) := by
 unfold tx text
 rw [List.append_assoc, take_num _ h]
 simp only [ne_eq, not_true_eq_false, if_false]
 rw [if_neg (by omega), if_neg (by simp)]
 simp
theorem mText_text (t : Bs) (most : Int) (h : t.length < 9223372036854775808) (hm : (t.length : Int) ≤ most) (r : Bs) : mText (text t ++ r) 0 most = (t, r, 0) := by
 unfold mText
 rw [tx_text t most h hm]
 simp
theorem mBytes_app (t : Bs) (n : Nat) (h : t.length = n) (r : Bs) : mBytes (t ++ r) 0 n = (t, r, 0) := by
 subst h
 unfold mBytes
 rw [if_neg (by simp), if_neg (by omega), if_neg (by simp; omega)]
 simp
def cut (kid : Nat → Bs) (k : Nat) : Nat → Bs := fun i => if i < k then kid i else []
end Pl
end Go.Proofs.YthgjdaomcpinaaaGreatDoor
namespace Go.Proofs.YthgjdaomcpinaaaGreatDoor
namespace Pl
def listB : List Bs → Bs
 | [] => []
 | x :: r => text x ++ listB r
def encS (l : List Bs) : Bs := num l.length ++ listB l
theorem listB_app (a : List Bs) (x : Bs) : listB (a ++ [x]) = listB a ++ text x := by
 induction a with
 | nil => simp [listB]
 | cons y r ih => simp [listB, ih, List.append_assoc]
theorem takeS (l : List Bs) (i : Nat) (hi : i < l.length) : l.take (i + 1) = l.take i ++ [l.getD i []] := by
 rw [List.take_add_one, List.getElem?_eq_getElem hi, List.getD_eq_getElem?_getD, List.getElem?_eq_getElem hi]
 rfl
def lGo (each : Int) : Nat → Bs → List Bs × Bs × Int
 | 0, s => ([], s, 0)
 | n + 1, s => if (tx s each).2.2 ≠ 0 then ([], [], (tx s each).2.2) else ((tx s each).1 :: (lGo each n (tx s each).2.1).1, (lGo each n (tx s each).2.1).2)
def mList (s : Bs) (c most each : Int) : List Bs × Bs × Int :=
 if c ≠ 0 then ([], s, c)
 else if (take s).2.2 ≠ 0 then ([], s, (take s).2.2)
 else if most < (take s).1 then ([], s, 2)
 else if (lGo each (take s).1 (take s).2.1).2.2 ≠ 0 then ([], s, (lGo each (take s).1 (take s).2.1).2.2)
 else lGo each (take s).1 (take s).2.1
def mListIn (s : Bs) (x : List Bs × Bs × Int) : List Bs × Bs × Int := if x.2.2 ≠ 0 then ([], s, x.2.2) else x
theorem mList_in (s : Bs) (most each : Int) (h : (take s).2.2 = 0) (hm : ¬ most < (take s).1) : mList s 0 most each = mListIn s (lGo each (take s).1 (take s).2.1) := by
 unfold mList mListIn
 simp [h, hm]
theorem mList_long (s : Bs) (most each : Int) (h : (take s).2.2 = 0) (hm : most < (take s).1) : mList s 0 most each = ([], s, 2) := by
 unfold mList
 simp [h, hm]
theorem mList_bad (s : Bs) (most each : Int) (h : (take s).2.2 ≠ 0) : mList s 0 most each = ([], s, (take s).2.2) := by
 unfold mList
 simp [h]
theorem mList_c (s : Bs) (c most each : Int) (h : c ≠ 0) : mList s c most each = ([], s, c) := by
 unfold mList
 simp [h]
theorem listB_len (l : List Bs) (m : Nat) (h : ∀ i, i < l.length → (l.getD i []).length ≤ m) : ∀ k, k ≤ l.length → (listB (l.take k)).length ≤ (m + 9) * k
 | 0, _ => by simp [listB]
 | k + 1, hk => by
  have h1 := listB_len l m h k (by omega)
  have h2 := h k (by omega)
  rw [takeS l k (by omega), listB_app]
  have h4 := text_len (l.getD k [])
  simp only [List.length_append]
  rw [Nat.mul_add]
  omega
end Pl
end Go.Proofs.YthgjdaomcpinaaaGreatDoor
namespace Go.Proofs.YthgjdaomcpinaaaGreatDoor
open Go.ChangeShapes Go.WideShapes Go.ChangeAt Go.RowKit
section
variable {H : Type} {enc : TypeId × Value → H} {P : Program}
theorem trodAll_below (hl : laidOutB P = true) {W W' : World} (hb : Below W.heap.size W W') :
  ∀ (ts : List TypeId) (vs : List Value) (ds : List (DataW H)) (ps : List MemPlace), (∀ t ∈ ts, P.readableRec t = true ∧ t < P.types.size) →
   DataW.TrodAll enc P W 0 (fun _ => true) true ts vs ds ps → (∀ x ∈ ps, x.block < W.heap.size) →
   DataW.TrodAll enc P W' 0 (fun b => decide (b < W.heap.size)) true ts vs ds ps
 | [], _, _, _, _, h, _ => by
  obtain ⟨rfl, rfl, rfl⟩ := trodAll_nil h
  exact trodAll_mk0
 | t :: ts, _, _, _, ht, h, hlt => by
  obtain ⟨v, vs, d, ds, p, q, rfl, rfl, rfl, h1, h2⟩ := trodAll_cons h
  exact ⟨p, q, Below.trod hl (ht t (by simp)).1 (ht t (by simp)).2 h1 hb (fun x hx => hlt x (by simp [hx])),
   trodAll_below hl hb ts vs ds q (fun u hu => ht u (by simp [hu])) h2 (fun x hx => hlt x (by simp [hx])), rfl⟩
theorem law_post {f : Func} {s : ChangeSpec} {apart fresh handsOn : Bool} {W W' : World} {args : Array Value} {ds gs : List (DataW H)} {before : List MemPlace} {tb : TypeId}
  (hl : laidOutB P = true) (hp : f.params.toList.all (fun t => P.readableRec t && decide (t < P.types.size)) = true)
  (hW : DataW.Whole enc P f.params.toList s.vars apart W args.toList ds gs before) (hv : s.vars = [])
  (hr : f.resultTypes = #[tb]) (htb : P.underlying tb = some .bool)
  (hs : s.fn H (ds ++ gs) = { results := [.lit (.bool true)], args := ds }) (hb : Below W.heap.size W W') :
  s.post enc P f apart fresh handsOn false W args (.bool true) W' := by
 have hlt := hW.lt
 have hW' := hW
 obtain ⟨p, q, hA, hV, rfl, hfz, hnd⟩ := hW
 rw [hv] at hV
 obtain ⟨rfl, rfl⟩ := trodVars_none hV
 refine ⟨ds, [], p ++ [], [], p, [], hW', ?_, ?_, ?_, hb.frame _, fun h => by cases h⟩
 ·rw [hs, hr]; exact trodAll_mk1 (shut_bool htb _)
 ·rw [hs]
  refine trodAll_below hl hb _ _ _ _ (fun t ht => ?_) hA (fun x hx => hlt x (by simp [hx]))
  have := List.all_eq_true.1 hp t ht
  simpa using this
 ·rw [hv, hs]; exact rfl
end
theorem keepC {W w1 : World} (hb : Below W.heap.size W w1) {b o : Nat} {v : Value} (h : W.cell? ⟨b, o, none⟩ = some v) : w1.cell? ⟨b, o, none⟩ = some v := by
 have hlt : b < W.heap.size := by
  rcases Nat.lt_or_ge b W.heap.size with h' | h'
  ·exact h'
  ·simp [World.cell?, Array.getElem?_eq_none h'] at h
 rw [hb.cell (p := ⟨b, o, none⟩) hlt]; exact h
theorem ret_bool {a b : Bool} (h : a = true ↔ b = true) : Ending.returned (.bool a) = .returned (.bool b) := by rw [Bool.eq_iff_iff.2 h]
@[go_sem, simp] theorem str_app (l m : List UInt8) : (⟨List.toArray l⟩ : ByteArray) ++ ⟨List.toArray m⟩ = ⟨List.toArray (l ++ m)⟩ := by
 apply ByteArray.ext
 apply Array.ext'
 simp
@[go_sem, simp] theorem ext_list (l : List UInt8) (a b : Nat) : (⟨List.toArray l⟩ : ByteArray).extract a b = ⟨List.toArray ((l.drop a).take (b - a))⟩ := by
 apply ByteArray.ext
 apply Array.ext'
 simp
@[go_sem, simp] theorem str_get (l : List UInt8) (i : Nat) (h : i < (⟨List.toArray l⟩ : ByteArray).size) : (⟨List.toArray l⟩ : ByteArray)[i]'h = l[i]'(by simpa [ByteArray.size] using h) := rfl
theorem ofInt64_nat (a : Nat) (ha : a < 9223372036854775808) : (BitVec.ofInt 64 (a : Int)).toNat = a := by
 rw [BitVec.toNat_ofInt]
 omega
theorem wrap_i64_nat (a : Nat) (ha : a < 9223372036854775808) : IntKind.i64.wrap (a : Int) = a := by
 rw [IntKind.wrap_i64]; omega
theorem i64_or_nat (a b : Nat) (ha : a < 9223372036854775808) (hb : b < 9223372036854775808) : bits .or .i64 (a : Int) (b : Int) = ((a ||| b : Nat) : Int) := by
 have hx : a ||| b < 2 ^ 63 := Nat.or_lt_two_pow (by omega) (by omega)
 show IntKind.i64.wrap ((BitVec.ofInt 64 (a : Int) ||| BitVec.ofInt 64 (b : Int)).toNat : Int) = _
 rw [BitVec.toNat_or, ofInt64_nat a ha, ofInt64_nat b hb]
 exact wrap_i64_nat _ (by omega)
theorem i64_or_byte (m x : Nat) (hm : m < 36028797018963968) (hx : x < 256) : bits .or .i64 ((m : Int) * 256) (x : Int) = ((m * 256 + x : Nat) : Int) := by
 have h := i64_or_nat (m * 256) x (by omega) (by omega)
 have h2 : m * 256 ||| x = m * 256 + x := by
  have := Nat.two_pow_add_eq_or_of_lt (i := 8) (b := x) (by omega) m
  rw [Nat.mul_comm m 256]
  exact this.symm
 rw [h2] at h
 rw [← h]
 simp
theorem ret_two {v0 v1 u0 u1 : Value} (h0 : v0 = u0) (h1 : v1 = u1) : Ending.returned (.tuple #[v0, v1]) = .returned (.tuple #[u0, u1]) := by rw [h0, h1]
theorem str_eq {l m : List UInt8} (h : l = m) : Value.string ⟨List.toArray l⟩ = .string ⟨List.toArray m⟩ := by rw [h]
theorem below_drewN {B : Nat} {a w : World} (h : Below B a w) (n : Nat) : Below B a (w.drewN n) := ⟨h.os, h.tape, h.output, h.size, h.block⟩
theorem Below.allocS {w w' : World} (h : Below w.heap.size w w') (o : Obj) : Below w.heap.size w (w'.alloc o) := h.alloc h.size o
structure Blk (w : World) (b : Nat) (cs : Array Value) : Prop where
 cell : ∀ o, w.cell? ⟨b, o, none⟩ = cs[o]?
 froz : ∀ o, w.frozen? ⟨b, o, none⟩ = false
 lt : b < w.heap.size
theorem Blk.keep {W w1 : World} (hb : Below W.heap.size W w1) {b : Nat} {cs : Array Value} (h : Blk W b cs) : Blk w1 b cs :=
 ⟨fun o => (hb.cell (p := ⟨b, o, none⟩) h.lt).trans (h.cell o), fun o => (hb.frozen (p := ⟨b, o, none⟩) h.lt).trans (h.froz o), Nat.lt_of_lt_of_le h.lt hb.size⟩
theorem Blk.new (w : World) (cs : Array Value) (t : TypeId) : Blk (w.alloc (.cells cs t)) w.heap.size cs :=
 ⟨fun o => by simp, fun o => by simp, by simp⟩
theorem Blk.new' {w : World} {cs : Array Value} {t : TypeId} {n : Nat} (h : n = w.heap.size) : Blk (w.alloc (.cells cs t)) n cs := by
 subst h; exact Blk.new w cs t
theorem Blk.alloc {w : World} {b : Nat} {cs : Array Value} (h : Blk w b cs) (o : Obj) : Blk (w.alloc o) b cs :=
 ⟨fun i => (World.cell?_alloc_past o b i h.lt).trans (h.cell i), fun i => (World.frozen?_alloc_past o b i h.lt).trans (h.froz i), by simp; have := h.lt; omega⟩
theorem Blk.drew {w : World} {b : Nat} {cs : Array Value} (h : Blk w b cs) : Blk w.drew b cs := ⟨h.cell, h.froz, h.lt⟩
theorem Blk.other {w : World} {b : Nat} {cs : Array Value} (h : Blk w b cs) {a : Addr} (ha : a.block ≠ b) (v : Value) : Blk (w.setCell a v) b cs :=
 ⟨fun i => (World.cell?_setCell_other w a ⟨b, i, none⟩ v (fun e => ha (by rw [e]))).trans (h.cell i), fun i => (World.frozen?_setCell _ _ _ _).trans (h.froz i), by simpa [World.setCell] using h.lt⟩
theorem Blk.set {w : World} {b : Nat} {cs : Array Value} (h : Blk w b cs) (i : Nat) (v : Value) : Blk (w.setCell ⟨b, i, none⟩ v) b (cs.setIfInBounds i v) := by
 refine ⟨fun o => ?_, fun o => (World.frozen?_setCell _ _ _ _).trans (h.froz o), by simpa [World.setCell] using h.lt⟩
 rw [Array.getElem?_setIfInBounds]
 by_cases e : i = o
 ·subst e
  rw [if_pos rfl]
  split
  ·rename_i hlt
   exact World.cell?_setCell_same w _ v (u := cs[i]) (by rw [h.cell i]; simp [hlt])
  ·rename_i hge
   have h1 : w.cell? ⟨b, i, none⟩ = none := by rw [h.cell i]; simp; omega
   have h2 := h.lt
   unfold World.cell? World.setCell at *
   simp only [Array.getElem?_modify, if_true] at *
   cases hh : w.heap[b]? with
   | none => simp
   | some ob => cases ob <;> simp_all
 ·rw [if_neg e, World.cell?_setCell_other w _ _ v (by intro hh; injection hh; contradiction)]
  exact h.cell o
theorem conv_str {P : Program} {w : World} (src e dst : TypeId) (hs : P.underlying src = some (.slice e)) (he : P.underlying e = some (.int .u8)) (hd : P.underlying dst = some .string) (b off len cap : Nat) (l : List UInt8) (hlen : l.length = len)
  (hcell : ∀ i, i < len → w.cell? ⟨b, off + i, none⟩ = some (.int .u8 ((l.getD i 0).toNat : Int))) :
  (convert src dst (.slice (some ⟨b, off, none⟩) len cap)).run P w = .ok (.string ⟨List.toArray l⟩) w := by
 have h := run_convert_bytes_arg (P := P) w src e hs he b off len cap (l.map fun c => (c.toNat : Int)) (by simpa using hlen) (fun i hi => by
  rw [hcell i hi]
  simp [List.getD, List.getElem?_eq_getElem (show i < l.length by omega)]) dst hd
 rw [h]
 congr 2
 apply ByteArray.ext
 apply Array.ext'
 rw [strOfNums_data]
 simp only [List.map_map]
 refine (List.map_congr_left (g := id) fun c _ => ?_).trans (by simp)
 simp [Function.comp]
@[go_sem] theorem run_conv0 {P : Program} {W : World} (src dst g o n : Nat) (hs : P.underlying src = some (.slice (P.elem src))) (he : P.underlying (P.elem src) = some (.int .u8)) (hd : P.underlying dst = some .string) :
  (convert src dst (.slice (some ⟨g, o, none⟩) 0 n)).run P W = .ok (.string ⟨List.toArray []⟩) W := by
 have h' := run_convert_bytes_arg (P := P) W src _ hs he g o 0 n [] rfl (fun i hi => by omega) dst hd
 rw [h']; rfl
@[go_sem] theorem run_conv1 {P : Program} {W : World} (src dst g n : Nat) (hs : P.underlying src = some (.slice (P.elem src))) (he : P.underlying (P.elem src) = some (.int .u8)) (hd : P.underlying dst = some .string) :
  (convert src dst (.slice (some ⟨g, 0, none⟩) 1 n)).run P W = match W.cell? ⟨g, 0, none⟩ with
   | some (.int .u8 x) => .ok (.string ⟨List.toArray [UInt8.ofNat x.toNat]⟩) W
   | _ => (Conv.bytesToString (.slice (some ⟨g, 0, none⟩) 1 n)).run P W := by
 split
 ·rename_i x h
  have h' := run_convert_bytes_arg (P := P) W src _ hs he g 0 1 n [x] rfl (fun i hi => by
   have : i = 0 := by omega
   subst this; simpa using h) dst hd
  rw [h']; rfl
 ·exact run_convert_bytes_string W src dst _ _ 1 n hs he hd
@[go_sem] theorem run_conv2 {P : Program} {W : World} (src dst g n : Nat) (hs : P.underlying src = some (.slice (P.elem src))) (he : P.underlying (P.elem src) = some (.int .u8)) (hd : P.underlying dst = some .string) :
  (convert src dst (.slice (some ⟨g, 0, none⟩) 2 n)).run P W = match W.cell? ⟨g, 0, none⟩, W.cell? ⟨g, 1, none⟩ with
   | some (.int .u8 x), some (.int .u8 y) => .ok (.string ⟨List.toArray [UInt8.ofNat x.toNat, UInt8.ofNat y.toNat]⟩) W
   | _, _ => (Conv.bytesToString (.slice (some ⟨g, 0, none⟩) 2 n)).run P W := by
 split
 ·rename_i x y h h2
  have h' := run_convert_bytes_arg (P := P) W src _ hs he g 0 2 n [x, y] rfl (fun i hi => by
   match i, hi with
   | 0, _ => simpa using h
   | 1, _ => simpa using h2) dst hd
  rw [h']; rfl
 ·exact run_convert_bytes_string W src dst _ _ 2 n hs he hd
structure Mod (l : List Nat) (w w' : World) : Prop where
 os : w'.os = w.os
 tape : w'.tape = w.tape
 output : w'.output = w.output
 size : w.heap.size ≤ w'.heap.size
 block : ∀ k, k < w.heap.size → k ∉ l → w'.heap[k]? = w.heap[k]?
theorem Mod.refl (l : List Nat) (w : World) : Mod l w w := ⟨rfl, rfl, rfl, Nat.le_refl _, fun _ _ _ => rfl⟩
theorem Mod.trans {l : List Nat} {a b c : World} (h : Mod l a b) (k : Mod l b c) : Mod l a c :=
 ⟨k.os.trans h.os, k.tape.trans h.tape, k.output.trans h.output, Nat.le_trans h.size k.size, fun i hi hn => (k.block i (Nat.lt_of_lt_of_le hi h.size) hn).trans (h.block i hi hn)⟩
theorem Mod.drew {l : List Nat} {a w : World} (h : Mod l a w) : Mod l a w.drew := ⟨h.os, h.tape, h.output, h.size, h.block⟩
theorem Mod.drewN {l : List Nat} {a w : World} (h : Mod l a w) (n : Nat) : Mod l a (w.drewN n) := ⟨h.os, h.tape, h.output, h.size, h.block⟩
theorem Mod.of_below {l : List Nat} {w w' : World} (h : Below w.heap.size w w') : Mod l w w' := ⟨h.os, h.tape, h.output, h.size, fun k hk _ => h.block k hk⟩
theorem Mod.sub {l m : List Nat} {w w' : World} (h : Mod l w w') (hs : ∀ x ∈ l, x ∈ m ∨ w.heap.size ≤ x) : Mod m w w' :=
 ⟨h.os, h.tape, h.output, h.size, fun k hk hn => h.block k hk (fun hm => (hs k hm).elim hn (by omega))⟩
theorem Mod.alloc {l : List Nat} {a w : World} (h : Mod l a w) (o : Obj) : Mod l a (w.alloc o) :=
 h.trans ⟨rfl, rfl, rfl, by simp, fun k hk _ => Below.heap_alloc _ _ _ hk⟩
theorem Mod.setCell {l : List Nat} {a w : World} (h : Mod l a w) {p : Addr} (hp : p.block ∈ l ∨ a.heap.size ≤ p.block) (u : Value) : Mod l a (w.setCell p u) := by
 refine ⟨h.os, h.tape, h.output, by simpa [World.setCell] using h.size, fun k hk hn => (Below.heap_setCell _ _ _ _ ?_).trans (h.block k hk hn)⟩
 intro e
 subst e
 rcases hp with hp | hp
 ·exact hn hp
 ·omega
theorem Mod.call {l m : List Nat} {a w w' : World} (h : Mod l a w) (k : Mod m w w') (hs : ∀ x ∈ m, x ∈ l ∨ a.heap.size ≤ x) : Mod l a w' :=
 ⟨k.os.trans h.os, k.tape.trans h.tape, k.output.trans h.output, Nat.le_trans h.size k.size, fun i hi hn =>
  (k.block i (Nat.lt_of_lt_of_le hi h.size) (fun hm => (hs i hm).elim hn (by omega))).trans (h.block i hi hn)⟩
theorem Blk.of_block {w w' : World} {b : Nat} {cs : Array Value} (h : Blk w b cs) (hb : w'.heap[b]? = w.heap[b]?) (hs : w.heap.size ≤ w'.heap.size) : Blk w' b cs :=
 ⟨fun o => (World.cell?_of_block (w := w) hb).trans (h.cell o), fun o => (World.frozen?_of_block (w := w) hb).trans (h.froz o), Nat.lt_of_lt_of_le h.lt hs⟩
theorem Blk.mod {w w' : World} {b : Nat} {cs : Array Value} (h : Blk w b cs) {l : List Nat} (hm : Mod l w w') (hb : b ∉ l) : Blk w' b cs :=
 h.of_block (hm.block b h.lt hb) hm.size
theorem Blk.drewN {w : World} {b : Nat} {cs : Array Value} (h : Blk w b cs) (n : Nat) : Blk (w.drewN n) b cs := ⟨h.cell, h.froz, h.lt⟩
theorem Below.mod {B : Nat} {a w w' : World} {l : List Nat} (h : Below B a w) (hm : Mod l w w') (hB : B ≤ w.heap.size) (hl : ∀ x ∈ l, B ≤ x) : Below B a w' :=
 h.trans ⟨hm.os, hm.tape, hm.output, hm.size, fun k hk => hm.block k (by omega) (fun hx => by have := hl k hx; omega)⟩
end Go.Proofs.YthgjdaomcpinaaaGreatDoor
namespace Go.Proofs.YthgjdaomcpinaaaGreatDoor
open Go.RowKit
theorem infoU8 : (Tryz.prog.info? 5).map (fun i => (i.zero, i.size, i.bytes)) = some (some (.int .u8 0), 1, 1) := by kernel_rfl
def bv (l : List UInt8) : List Value := l.map fun c => Value.int .u8 (c.toNat : Int)
def BRow (w : World) (base : Nat) (v : Value) (l : List UInt8) : Prop := w.ownsRow base 5 1 v l.length (bv l)
theorem bv_len (l : List UInt8) : (bv l).length = l.length := by simp [bv]
theorem BRow.nil (w : World) (base : Nat) : BRow w base (.slice none 0 0) [] := ⟨rfl, .inl ⟨rfl, rfl⟩⟩
theorem BRow.cells {w : World} {base : Nat} {v : Value} {l : List UInt8} (h : BRow w base v l) :
  (v = .slice none 0 0 ∧ l = []) ∨ ∃ g cap, v = .slice (some ⟨g, 0, none⟩) l.length cap ∧ base ≤ g ∧ g < w.heap.size ∧ l.length ≤ cap ∧ cap ≤ maxLen ∧ (∀ i, i < l.length → w.cell? ⟨g, i, none⟩ = some (.int .u8 ((l.getD i 0).toNat : Int))) ∧ ∀ o, w.frozen? ⟨g, o, none⟩ = false := by
 rcases h.2 with ⟨h1, h2⟩ | ⟨g, cap, cur, hv, hb, hg, hn, hm, hc, ht⟩
 ·exact .inl ⟨h1, List.length_eq_zero_iff.1 h2⟩
 ·refine .inr ⟨g, cap, hv, hb, ?_, hn, hm, fun i hi => ?_, fun o => ?_⟩
  ·rcases Nat.lt_or_ge g w.heap.size with hlt | hge
   ·exact hlt
   ·rw [Array.getElem?_eq_none hge] at hg; cases hg
  ·have h1 : cur[i]? = (cur.toList.take (l.length * 1))[i]? := by
    rw [List.getElem?_take, if_pos (by omega)]; simp
   have h2 : w.cell? ⟨g, i, none⟩ = cur[i]? := by simp [World.cell?, hg]
   rw [h2, h1, ht]
   simp [bv, List.getD, List.getElem?_eq_getElem hi]
  ·simp [World.frozen?, hg]
theorem grown_below {w w' : World} {base : Nat} {row : Option Nat} (hg : w.grownBy w' row) (hb : base ≤ w.heap.size) (hr : ∀ k, row = some k → base ≤ k) : Below base w w' :=
 (Below.refl base w).grown hg hb hr
theorem BRow.own {w : World} {base : Nat} {v : Value} {l : List UInt8} (h : BRow w base v l) : ∀ k, v.ownBlock = some k → base ≤ k := by
 intro k hk
 rcases h.cells with ⟨rfl, _⟩ | ⟨g, cap, rfl, hb, _⟩
 ·cases hk
 ·cases hk; exact hb
theorem BRow.kept {w w' : World} {base : Nat} {v : Value} {l : List UInt8} (h : BRow w base v l) (hb : ∀ k, v.ownBlock = some k → w'.heap[k]? = w.heap[k]?) : BRow w' base v l := by
 refine ⟨h.1, h.2.imp id ?_⟩
 rintro ⟨g, cap, cur, hv, h1, h2, h3⟩
 subst hv
 exact ⟨g, cap, cur, rfl, h1, (hb g rfl).trans h2, h3⟩
theorem BRow.alloc {w : World} {base : Nat} {v : Value} {l : List UInt8} (h : BRow w base v l) (o : Obj) : BRow (w.alloc o) base v l := by
 refine h.kept (fun k hk => Below.heap_alloc _ _ _ ?_)
 rcases h.cells with ⟨rfl, rfl⟩ | ⟨g, cap, rfl, _, hlt, _⟩
 ·cases hk
 ·cases hk; exact hlt
def BSrc (w : World) (g o : Nat) (l : List UInt8) : Prop := ∀ i, i < l.length → w.cell? ⟨g, o + i, none⟩ = some (.int .u8 ((l.getD i 0).toNat : Int))
theorem bsrc1 (w : World) (x : UInt8) (a : Int) (t : TypeId) (ha : a = (x.toNat : Int)) : BSrc (w.alloc (.cells #[.int .u8 a] t)) w.heap.size 0 [x] := by
 intro i hi
 have : i = 0 := by simp at hi; omega
 subst this; subst ha
 simp
theorem BSrc.drew {w : World} {g o : Nat} {l : List UInt8} (h : BSrc w g o l) : BSrc w.drew g o l := h
theorem bsrc_news {w : World} {g o : Nat} {l : List UInt8} (h : BSrc w g o l) : ∀ j u, (bv l)[j]? = some u → w.cell? ((⟨g, o, none⟩ : Addr).add j) = some u := by
 intro j u hj
 have hjl : j < l.length := by
  rcases Nat.lt_or_ge j l.length with hlt | hge
  ·exact hlt
  ·rw [List.getElem?_eq_none (by rw [bv_len]; exact hge)] at hj; cases hj
 have hadd : (⟨g, o, none⟩ : Addr).add j = ⟨g, o + j, none⟩ := by unfold Addr.add; split <;> simp_all
 rw [hadd, h j hjl]
 simp [bv, List.getElem?_eq_getElem hjl] at hj
 simp [List.getD, List.getElem?_eq_getElem hjl, hj]
theorem bone (l : List UInt8) : ∀ u ∈ bv l, u.oneCell' = true := by
 intro u hu
 simp [bv] at hu
 obtain ⟨c, _, rfl⟩ := hu
 rfl
section
variable {ops : Array Oper} {o : Oper} {a : Act} {w : World} {Q : Exit → Act → World → Prop}
theorem wp_appB {K : Act → World → Prop} (s x : Operand)
  (ho : o.op = .call { callee := .builtin .append, args := #[s, x], argTypes := #[113, 113] })
  (base : Nat) (v : Value) (l : List UInt8) (hs : a.eval s = v) (hown : BRow w base v l)
  (g off m c : Nat) (news : List UInt8) (hx : a.eval x = .slice (some ⟨g, off, none⟩) m c) (hm : news.length = m) (hsrc : BSrc w g off news)
  (hlen : l.length + m ≤ 140737488355328) (hbase : base ≤ w.heap.size)
  (h : ∀ v' w', BRow w' base v' (l ++ news) → Below base w w' → K (a.put o.dst v') w') : o.wp Tryz.prog a w K Q := by
 obtain ⟨i0, hi, hz0, hz1, hz2⟩ := info_parts infoU8
 refine wp_append_own w s x 113 ho base 5 i0 (.int .u8 0) 1 1 Tryz.underlying113 hi hz0 hz1 hz2 rfl (by decide) v l.length (bv l) hs hown ⟨g, off, none⟩ m c (bv news) hx (by rw [bv_len, hm]; omega) (bsrc_news hsrc) (bone news)
  (by unfold maxLen; omega) (by omega) hbase (fun v' w' h2 h3 _ => h v' w' ?_ (grown_below h3 hbase hown.own))
 unfold BRow
 rw [List.length_append, hm, show bv (l ++ news) = bv l ++ bv news from by simp [bv]]
 exact h2
theorem wpList_appB {rest : List Oper} (hgd : o.guard = none) (s x : Operand)
  (ho : o.op = .call { callee := .builtin .append, args := #[s, x], argTypes := #[113, 113] })
  (base : Nat) (v : Value) (l : List UInt8) (hs : a.eval s = v) (hown : BRow w base v l)
  (g off m c : Nat) (news : List UInt8) (hx : a.eval x = .slice (some ⟨g, off, none⟩) m c) (hm : news.length = m) (hsrc : BSrc w g off news)
  (hlen : l.length + m ≤ 140737488355328) (hbase : base ≤ w.heap.size)
  (h : ∀ v' w', BRow w' base v' (l ++ news) → Below base w w' → wpList Tryz.prog ops Q rest (a.put o.dst v') w') : wpList Tryz.prog ops Q (o :: rest) a w :=
 wpList_plain hgd fun _ hK => wp_appB s x ho base v l hs hown g off m c news hx hm hsrc hlen hbase fun v' w' h2 h3 => hK _ _ (h v' w' h2 h3)
end
end Go.Proofs.YthgjdaomcpinaaaGreatDoor
