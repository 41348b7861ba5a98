/- Plain, TrieP, TrieS, Kit, Bytes, Strs, Node. -/
import Derived.WalkKit
import Derived.ProofKit
import Derived.Outline
import Derived.WalkSpells
import Derived.WalkLawsBesides
import Derived.Deep.QuietTactic
import Derived.BigQuiet
import Derived.RowKit3
import Derived.Lib.Hide
import Derived.Lib.MinMax
import Derived.Lib.SmallJoins
import Derived.Deep.DeepCutAuto
import Derived.Deep.LoopGhost
import Derived.Deep.RegionHeld3
import Derived.Deep.RegionWith
import Derived.StillTailTactics
import Derived.Test.YthkpmlfaddlieaaGreatDoorRows
import Derived.Deep.AppendLies
import Derived.Deep.RegionLaw
import Derived.Laws.BytesArg
import Derived.Deep.MidRow
import Derived.ChangeKeysEq
set_option linter.unnecessarySimpa false
set_option linter.unusedSimpArgs false
set_option linter.unusedVariables false
set_option maxRecDepth 100000
set_option maxHeartbeats 32000000
namespace Go.Proofs.YthkpmlfaddlieaaGreatDoor
namespace Pl
abbrev Bs := List UInt8
def fit (p : Bs) : Bool := p.all fun c => decide (c.toNat ≤ 15)
def ofP (s : Bs) : Bs := s.flatMap fun c => [UInt8.ofNat (c.toNat / 16), UInt8.ofNat (c.toNat % 16)]
def joined : Bs → Bs
 | a :: b :: r => UInt8.ofNat (a.toNat * 16 + b.toNat) :: joined r
 | _ => []
def pack (p : Bs) (leaf : Bool) : Bs × Int :=
 if fit p = false then ([], 3)
 else if p.length % 2 = 1 then (UInt8.ofNat ((if leaf then 32 else 0) + 16 + (p.headD 0).toNat) :: joined p.tail, 0)
 else (UInt8.ofNat (if leaf then 32 else 0) :: joined p, 0)
def unpack : Bs → Bs × Bool × Int
 | [] => ([], false, 3)
 | c :: r =>
  if 3 < c.toNat / 16 ∨ (c.toNat / 16 % 2 = 0 ∧ c.toNat % 16 ≠ 0) then ([], false, 3)
  else ((if c.toNat / 16 % 2 = 1 then UInt8.ofNat (c.toNat % 16) :: ofP r else ofP r), decide (2 ≤ c.toNat / 16), 0)
theorem ofP_snoc (l : Bs) (c : UInt8) : ofP (l ++ [c]) = ofP l ++ [UInt8.ofNat (c.toNat / 16), UInt8.ofNat (c.toNat % 16)] := by simp [ofP]
theorem ofP_len (l : Bs) : (ofP l).length = 2 * l.length := by
 induction l with
 | nil => rfl
 | cons c r ih =>
  have : ofP (c :: r) = [UInt8.ofNat (c.toNat / 16), UInt8.ofNat (c.toNat % 16)] ++ ofP r := by simp [ofP]
  rw [this, List.length_append, ih]; simp; omega
theorem fit_take (p : Bs) (i : Nat) (h : i < p.length) : fit (p.take (i + 1)) = (fit (p.take i) && decide (p[i].toNat ≤ 15)) := by
 unfold fit
 rw [List.take_succ_eq_append_getElem h, List.all_append]
 simp
theorem fit_at (p : Bs) (h : fit p = true) (i : Nat) (hi : i < p.length) : p[i].toNat ≤ 15 := by
 have := List.all_eq_true.1 h p[i] (List.getElem_mem hi)
 simpa using this
theorem fit_not (p : Bs) (i : Nat) (hi : i < p.length) (h : 15 < p[i].toNat) : fit p = false := by
 cases hf : fit p with
 | false => rfl
 | true => have := fit_at p hf i hi; omega
def digs : Nat → Nat → Bs
 | 0, _ => []
 | f + 1, n => if n = 0 then [] else digs f (n / 256) ++ [UInt8.ofNat (n % 256)]
theorem digs_step (f n : Nat) (h : 0 < n) : digs (f + 1) n = digs f (n / 256) ++ [UInt8.ofNat (n % 256)] := by
 rw [digs, if_neg (by omega)]
theorem digs_zero (f : Nat) : digs f 0 = [] := by cases f <;> rfl
def num (n : Nat) : Bs := UInt8.ofNat (digs 8 n).length :: digs 8 n
def text (s : Bs) : Bs := num s.length ++ s
def be (l : Bs) : Nat := l.foldl (fun a b => a * 256 + b.toNat) 0
def take (s : Bs) : Nat × Bs × Int :=
 match s with
 | [] => (0, [], 20)
 | k :: r =>
  if 8 < k.toNat then (0, [], 3)
  else if r.length < k.toNat then (0, [], 20)
  else if (0 < k.toNat ∧ r.headD 0 = 0) ∨ (k.toNat = 8 ∧ 127 < (r.headD 0).toNat) then (0, [], 3)
  else (be (r.take k.toNat), r.drop k.toNat, 0)
def tx (s : Bs) (most : Int) : Bs × Bs × Int :=
 if (take s).2.2 ≠ 0 then ([], [], (take s).2.2)
 else if most < (take s).1 then ([], [], 2)
 else if (take s).2.1.length < (take s).1 then ([], [], 20)
 else ((take s).2.1.take (take s).1, (take s).2.1.drop (take s).1, 0)
def kidsTo (kid : Nat → Bs) (n : Nat) : List Bs := ((List.range n).map kid).filter fun s => !s.isEmpty
def kidsF (kid : Nat → Bs) : List Bs := kidsTo kid 16
def sameL (a b : List Bs) : Bool := decide (a = b)
def kidL (kid : Nat → Bs) : List Bs := (List.range 16).map kid
def noKids (kid : Nat → Bs) : Bool := sameL (kidL kid) (List.replicate 16 [])
def oneKidX (kid : Nat → Bs) (x : Bs) : Bool := sameL (kidL kid) (x :: List.replicate 15 [])
def pathOk (p : Bs) (least : Int) : Bool := fit p && decide (least ≤ p.length) && decide (p.length ≤ 16)
def all32 (l : List Bs) : Bool := l.all fun s => decide (s.length = 32)
def chk (kind : Int) (path val : Bs) (kid : Nat → Bs) : Bool :=
 if kind = 1 then noKids kid && pathOk path 0 && !val.isEmpty && decide (val.length ≤ 32)
 else if kind = 2 then oneKidX kid (kid 0) && all32 [kid 0] && pathOk path 1 && val.isEmpty
 else if kind = 3 then path.isEmpty && all32 (kidsF kid) && decide (2 ≤ (kidsF kid).length + (if val.isEmpty then 0 else 1)) && decide (val.length ≤ 32)
 else false
theorem kidsTo_succ (kid : Nat → Bs) (n : Nat) : kidsTo kid (n + 1) = kidsTo kid n ++ (if kid n = [] then [] else [kid n]) := by
 unfold kidsTo
 rw [List.range_succ, List.map_append, List.filter_append]
 congr 1
 simp [List.filter_cons]
theorem kidsTo_len (kid : Nat → Bs) (n : Nat) : (kidsTo kid n).length ≤ n := by
 unfold kidsTo
 refine Nat.le_trans (List.length_filter_le _ _) ?_
 simp
def bitv (kid : Nat → Bs) (i : Nat) : Nat := if kid i = [] then 0 else 1
def numTo (kid : Nat → Bs) : Nat → Nat
 | 0 => 0
 | n + 1 => numTo kid n * 2 + bitv kid n
def hiK (kid : Nat → Bs) : Nat := numTo kid 8
def loK (kid : Nat → Bs) : Nat := numTo kid 16 % 256
theorem numTo_lt (kid : Nat → Bs) (n : Nat) : numTo kid n < 2 ^ n := by
 induction n with
 | zero => simp [numTo]
 | succ n ih =>
  have : bitv kid n ≤ 1 := by unfold bitv; split <;> omega
  rw [numTo, Nat.pow_succ]; omega
theorem hiK_lt (kid : Nat → Bs) : hiK kid < 256 := numTo_lt kid 8
theorem loK_lt (kid : Nat → Bs) : loK kid < 256 := Nat.mod_lt _ (by decide)
theorem numTo_add (kid : Nat → Bs) (n m : Nat) : numTo kid (n + m) = numTo kid n * 2 ^ m + numTo (fun i => kid (n + i)) m := by
 induction m with
 | zero => simp [numTo]
 | succ m ih =>
  rw [← Nat.add_assoc, numTo, ih, numTo, Nat.pow_succ]
  have : bitv kid (n + m) = bitv (fun i => kid (n + i)) m := rfl
  rw [this, Nat.add_mul, Nat.mul_assoc]; omega
def enc (kind : Int) (path val : Bs) (kid : Nat → Bs) : Bs :=
 if kind = 3 then [3, UInt8.ofNat (hiK kid), UInt8.ofNat (loK kid)] ++ (kidsF kid).flatten ++ text val
 else if kind = 1 then 1 :: (text (pack path true).1 ++ text val)
 else 2 :: (text (pack path false).1 ++ kid 0)
theorem joined_len' (s : Bs) : (joined s).length ≤ s.length := by
 induction s using joined.induct with
 | case1 a b r ih => simp [joined] at ih ⊢; omega
 | case2 s h => 
  rw [joined.eq_def]
  split
  ·rename_i a b r; exact absurd rfl (h a b r)
  ·simp
theorem pack_len (p : Bs) (leaf : Bool) : (pack p leaf).1.length ≤ p.length + 1 := by
 unfold pack
 have h1 := joined_len' p
 have h2 := joined_len' p.tail
 have h3 : p.tail.length ≤ p.length := by simp
 split
 ·simp
 ·split
  ·simp at *; omega
  ·simp; omega
theorem text_len (s : Bs) : (text s).length ≤ s.length + 9 := by
 have : ∀ f m, (digs f m).length ≤ f := by
  intro f
  induction f with
  | zero => intro m; simp [digs]
  | succ f ih =>
   intro m
   unfold digs
   split
   ·simp
   ·have := ih (m / 256); simp; omega
 have := this 8 s.length
 simp [text, num]; omega
def upd (kid : Nat → Bs) (k : Nat) (x : Bs) : Nat → Bs := fun i => if i = k then x else kid i
def noK : Nat → Bs := fun _ => []
def fineR (kind : Int) (path val : Bs) (kid : Nat → Bs) : Bool :=
 if all32 (kidsF kid) = false then false
 else if fit path = false ∨ 16 < path.length ∨ 32 < val.length then false
 else if kind = 1 then decide ((kidsF kid).length = 0) && !val.isEmpty
 else if kind = 2 then decide ((kidsF kid).length = 1) && !(kid 0).isEmpty && decide (1 ≤ path.length) && val.isEmpty
 else if kind = 3 then decide (path.length = 0) && (decide (2 ≤ (kidsF kid).length) || decide ((kidsF kid).length = 1) && !val.isEmpty)
 else false
theorem flat_succ (kid : Nat → Bs) (k : Nat) : (kidsTo kid (k + 1)).flatten = (kidsTo kid k).flatten ++ kid k := by
 rw [kidsTo_succ, List.flatten_append]
 by_cases h : kid k = []
 ·simp [h]
 ·simp [h]
theorem loK_eq (kid : Nat → Bs) : loK kid = numTo (fun i => kid (8 + i)) 8 := by
 have h := numTo_add kid 8 8
 have h2 := numTo_lt (fun i => kid (8 + i)) 8
 unfold loK
 simp only [Nat.reduceAdd, Nat.reducePow] at h h2 ⊢
 omega
def hiT (kid : Nat → Bs) (k : Nat) : Nat := numTo kid (min k 8)
def loT (kid : Nat → Bs) (k : Nat) : Nat := numTo (fun i => kid (8 + i)) (k - 8)
theorem hiT_lo (kid : Nat → Bs) (k : Nat) (h : k < 8) : hiT kid (k + 1) = hiT kid k * 2 + bitv kid k ∧ loT kid (k + 1) = loT kid k := by
 unfold hiT loT
 rw [show min (k + 1) 8 = k + 1 from by omega, show min k 8 = k from by omega, numTo, show k + 1 - 8 = 0 from by omega, show k - 8 = 0 from by omega]
 exact ⟨rfl, rfl⟩
theorem loT_hi (kid : Nat → Bs) (k : Nat) (h : 8 ≤ k) : loT kid (k + 1) = loT kid k * 2 + bitv kid k ∧ hiT kid (k + 1) = hiT kid k := by
 unfold hiT loT
 rw [show min (k + 1) 8 = 8 from by omega, show min k 8 = 8 from by omega, show k + 1 - 8 = (k - 8) + 1 from by omega, numTo]
 refine ⟨?_, rfl⟩
 have : bitv (fun i => kid (8 + i)) (k - 8) = bitv kid k := by
  have h8 : 8 + (k - 8) = k := by omega
  simp [bitv, h8]
 rw [this]
theorem hiT_lt (kid : Nat → Bs) (k : Nat) : hiT kid k < 256 := Nat.lt_of_lt_of_le (numTo_lt kid (min k 8)) (Nat.pow_le_pow_right (by omega) (Nat.min_le_right _ _))
theorem loT_lt (kid : Nat → Bs) (k : Nat) (h : k ≤ 16) : loT kid k < 256 := Nat.lt_of_lt_of_le (numTo_lt _ (k - 8)) (Nat.pow_le_pow_right (by omega) (show k - 8 ≤ 8 by omega))
end Pl
end Go.Proofs.YthkpmlfaddlieaaGreatDoor
namespace Go.Proofs.YthkpmlfaddlieaaGreatDoor
namespace Pl
def common : Bs → Bs → Nat
 | a :: r, b :: s => if a = b then common r s + 1 else 0
 | _, _ => 0
theorem common_le : ∀ (a b : Bs), common a b ≤ a.length ∧ common a b ≤ b.length
 | [], _ => by simp [common]
 | _ :: _, [] => by simp [common]
 | a :: r, b :: s => by
  have := common_le r s
  unfold common
  split <;> simp <;> omega
theorem common_take : ∀ (a b : Bs), a.take (common a b) = b.take (common a b)
 | [], b => by simp [common]
 | a :: r, [] => by simp [common]
 | a :: r, b :: s => by
  unfold common
  split
  ·rename_i h; subst h; simp [common_take r s]
  ·simp
end Pl
end Go.Proofs.YthkpmlfaddlieaaGreatDoor
namespace Go.Proofs.YthkpmlfaddlieaaGreatDoor
namespace Pl
abbrev It := Bs × Bs
theorem fit_app (p q : Bs) : fit (p ++ q) = (fit p && fit q) := by simp [fit]
theorem fit_split (q : Bs) (c : Nat) (h : fit q = true) : fit (q.take c) = true ∧ fit (q.drop c) = true := by
 rw [← Bool.and_eq_true, ← fit_app, List.take_append_drop]; exact h
theorem fit_cons (a : UInt8) (r : Bs) : fit (a :: r) = true ↔ a.toNat < 16 ∧ fit r = true := by
 simp [fit]; intro _; omega
def Rise (l : List It) : Prop := l.Pairwise fun x y => x.1 < y.1
def insI (k v : Bs) : List It → List It
 | [] => [(k, v)]
 | x :: r => if x.1 < k then x :: insI k v r else if x.1 = k then (k, v) :: r else (k, v) :: x :: r
theorem insI_mem (k v : Bs) : ∀ (l : List It), Rise l → ∀ y, y ∈ insI k v l ↔ y = (k, v) ∨ (y ∈ l ∧ y.1 ≠ k)
 | [], _, y => by simp [insI]
 | x :: r, h, y => by
  unfold Rise at h
  rw [List.pairwise_cons] at h
  have ih := insI_mem k v r h.2 y
  unfold insI
  by_cases h1 : x.1 < k
  ·rw [if_pos h1, List.mem_cons, ih, List.mem_cons]
   have hx : y = x → y.1 ≠ k := fun e e2 => by subst e; rw [e2] at h1; exact List.lt_irrefl _ h1
   constructor
   ·rintro (h | h | h)
    ·exact .inr ⟨.inl h, hx h⟩
    ·exact .inl h
    ·exact .inr ⟨.inr h.1, h.2⟩
   ·rintro (h | ⟨h | h, h2⟩)
    ·exact .inr (.inl h)
    ·exact .inl h
    ·exact .inr (.inr ⟨h, h2⟩)
  ·rw [if_neg h1]
   by_cases h2 : x.1 = k
   ·rw [if_pos h2, List.mem_cons, List.mem_cons]
    constructor
    ·rintro (h3 | h3)
     ·exact .inl h3
     ·exact .inr ⟨.inr h3, fun e => by have := h.1 y h3; rw [e, h2] at this; exact List.lt_irrefl _ this⟩
    ·rintro (h3 | ⟨h3 | h3, h4⟩)
     ·exact .inl h3
     ·subst h3; exact absurd h2 h4
     ·exact .inr h3
   ·rw [if_neg h2, List.mem_cons]
    have h3 : k < x.1 := by
     rcases Classical.em (k < x.1) with h3 | h3
     ·exact h3
     ·exact absurd (List.le_antisymm (List.not_lt.1 h3) (List.not_lt.1 h1)) h2
    constructor
    ·rintro (h4 | h4)
     ·exact .inl h4
     ·refine .inr ⟨h4, fun e => ?_⟩
      rcases List.mem_cons.1 h4 with h5 | h5
      ·subst h5; exact h2 e
      ·have := List.lt_trans h3 (h.1 y h5); rw [e] at this; exact List.lt_irrefl _ this
    ·rintro (h4 | h4)
     ·exact .inl h4
     ·exact .inr h4.1
theorem insI_rise (k v : Bs) : ∀ (l : List It), Rise l → Rise (insI k v l)
 | [], _ => by simp [insI, Rise]
 | x :: r, h => by
  have hr : Rise r := by unfold Rise at h ⊢; exact (List.pairwise_cons.1 h).2
  have ih := insI_rise k v r hr
  have hm := insI_mem k v r hr
  unfold Rise at h
  rw [List.pairwise_cons] at h
  unfold insI
  by_cases h1 : x.1 < k
  ·rw [if_pos h1]
   unfold Rise at ih ⊢
   rw [List.pairwise_cons]
   refine ⟨fun y hy => ?_, ih⟩
   rcases (hm y).1 hy with h2 | h2
   ·subst h2; exact h1
   ·exact h.1 y h2.1
  ·rw [if_neg h1]
   by_cases h2 : x.1 = k
   ·rw [if_pos h2]
    unfold Rise
    rw [List.pairwise_cons]
    exact ⟨fun y hy => by have := h.1 y hy; rw [h2] at this; exact this, h.2⟩
   ·rw [if_neg h2]
    have h3 : k < x.1 := by
     rcases Classical.em (k < x.1) with h3 | h3
     ·exact h3
     ·exact absurd (List.le_antisymm (List.not_lt.1 h3) (List.not_lt.1 h1)) h2
    unfold Rise
    rw [List.pairwise_cons, List.pairwise_cons]
    refine ⟨fun y hy => ?_, h⟩
    rcases List.mem_cons.1 hy with h4 | h4
    ·subst h4; exact h3
    ·exact List.lt_trans h3 (h.1 y h4)
theorem insI_len (k v : Bs) : ∀ (l : List It), (insI k v l).length ≤ l.length + 1
 | [] => by simp [insI]
 | x :: r => by
  have := insI_len k v r
  unfold insI
  split
  ·simp; omega
  ·split <;> simp
theorem ofP_cons (c : UInt8) (r : Bs) : ofP (c :: r) = UInt8.ofNat (c.toNat / 16) :: UInt8.ofNat (c.toNat % 16) :: ofP r := by simp [ofP]
theorem nib_hi (c : UInt8) : (UInt8.ofNat (c.toNat / 16)).toNat = c.toNat / 16 := by
 have := c.toNat_lt
 rw [UInt8.toNat_ofNat']; omega
theorem nib_lo (c : UInt8) : (UInt8.ofNat (c.toNat % 16)).toNat = c.toNat % 16 := by
 rw [UInt8.toNat_ofNat']; omega
theorem ofP_lt : ∀ (a b : Bs), ofP a < ofP b ↔ a < b
 | [], [] => by simp [ofP]
 | [], d :: s => by simp [ofP_cons]; simp [ofP]
 | c :: r, [] => by simp [ofP]
 | c :: r, d :: s => by
  rw [ofP_cons, ofP_cons, List.cons_lt_cons_iff, List.cons_lt_cons_iff, List.cons_lt_cons_iff, ofP_lt r s]
  simp only [UInt8.lt_iff_toNat_lt, ← UInt8.toNat_inj, nib_hi, nib_lo]
  constructor
  ·rintro (h | ⟨h1, h | ⟨h2, h⟩⟩)
   ·left; omega
   ·left; omega
   ·right; exact ⟨by omega, h⟩
  ·rintro (h | ⟨h1, h⟩)
   ·by_cases h2 : c.toNat / 16 < d.toNat / 16
    ·exact .inl h2
    ·exact .inr ⟨by omega, .inl (by omega)⟩
   ·exact .inr ⟨by omega, .inr ⟨by omega, h⟩⟩
theorem ofP_fit (s : Bs) : fit (ofP s) = true := by
 induction s with
 | nil => rfl
 | cons c r ih =>
  have := c.toNat_lt
  rw [ofP_cons, fit_cons, fit_cons, nib_hi, nib_lo]
  exact ⟨by omega, by omega, ih⟩
def pathsI (l : List It) : List It := l.map fun x => (ofP x.1, x.2)
end Pl
end Go.Proofs.YthkpmlfaddlieaaGreatDoor
namespace Go.Proofs.YthkpmlfaddlieaaGreatDoor
open Go.ChangeShapes Go.WideShapes Go.ChangeAt Go.RowKit
section
variable {H : Type} {enc : TypeId × Value → H} {P : Program}
theorem trodAll_below (hl : laidOutB P = true) {W W' : World} (hb : Below W.heap.size W W') :
  ∀ (ts : List TypeId) (vs : List Value) (ds : List (DataW H)) (ps : List MemPlace), (∀ t ∈ ts, P.readableRec t = true ∧ t < P.types.size) →
   DataW.TrodAll enc P W 0 (fun _ => true) true ts vs ds ps → (∀ x ∈ ps, x.block < W.heap.size) →
   DataW.TrodAll enc P W' 0 (fun b => decide (b < W.heap.size)) true ts vs ds ps
 | [], _, _, _, _, h, _ => by
  obtain ⟨rfl, rfl, rfl⟩ := trodAll_nil h
  exact trodAll_mk0
 | t :: ts, _, _, _, ht, h, hlt => by
  obtain ⟨v, vs, d, ds, p, q, rfl, rfl, rfl, h1, h2⟩ := trodAll_cons h
  exact ⟨p, q, Below.trod hl (ht t (by simp)).1 (ht t (by simp)).2 h1 hb (fun x hx => hlt x (by simp [hx])),
   trodAll_below hl hb ts vs ds q (fun u hu => ht u (by simp [hu])) h2 (fun x hx => hlt x (by simp [hx])), rfl⟩
theorem law_post {f : Func} {s : ChangeSpec} {apart fresh handsOn : Bool} {W W' : World} {args : Array Value} {ds gs : List (DataW H)} {before : List MemPlace} {tb : TypeId}
  (hl : laidOutB P = true) (hp : f.params.toList.all (fun t => P.readableRec t && decide (t < P.types.size)) = true)
  (hW : DataW.Whole enc P f.params.toList s.vars apart W args.toList ds gs before) (hv : s.vars = [])
  (hr : f.resultTypes = #[tb]) (htb : P.underlying tb = some .bool)
  (hs : s.fn H (ds ++ gs) = { results := [.lit (.bool true)], args := ds }) (hb : Below W.heap.size W W') :
  s.post enc P f apart fresh handsOn false W args (.bool true) W' := by
 have hlt := hW.lt
 have hW' := hW
 obtain ⟨p, q, hA, hV, rfl, hfz, hnd⟩ := hW
 rw [hv] at hV
 obtain ⟨rfl, rfl⟩ := trodVars_none hV
 refine ⟨ds, [], p ++ [], [], p, [], hW', ?_, ?_, ?_, hb.frame _, fun h => by cases h⟩
 ·rw [hs, hr]; exact trodAll_mk1 (shut_bool htb _)
 ·rw [hs]
  refine trodAll_below hl hb _ _ _ _ (fun t ht => ?_) hA (fun x hx => hlt x (by simp [hx]))
  have := List.all_eq_true.1 hp t ht
  simpa using this
 ·rw [hv, hs]; exact rfl
end
theorem bcell {W w1 : World} (hb : Below W.heap.size W w1) : (∀ b o, b < W.heap.size → w1.cell? ⟨b, o, none⟩ = W.cell? ⟨b, o, none⟩) ∧ (∀ b o, b < W.heap.size → w1.frozen? ⟨b, o, none⟩ = W.frozen? ⟨b, o, none⟩) :=
 ⟨fun b o h => hb.cell (p := ⟨b, o, none⟩) h, fun b o h => hb.frozen (p := ⟨b, o, none⟩) h⟩
theorem keepC {W w1 : World} (hb : Below W.heap.size W w1) {b o : Nat} {v : Value} (h : W.cell? ⟨b, o, none⟩ = some v) : w1.cell? ⟨b, o, none⟩ = some v := by
 have hlt : b < W.heap.size := by
  rcases Nat.lt_or_ge b W.heap.size with h' | h'
  ·exact h'
  ·simp [World.cell?, Array.getElem?_eq_none h'] at h
 rw [hb.cell (p := ⟨b, o, none⟩) hlt]; exact h
theorem ret_bool {a b : Bool} (h : a = true ↔ b = true) : Ending.returned (.bool a) = .returned (.bool b) := by rw [Bool.eq_iff_iff.2 h]
@[go_sem, simp] theorem str_app (l m : List UInt8) : (⟨l.toArray⟩ : ByteArray) ++ ⟨m.toArray⟩ = ⟨List.toArray (l ++ m)⟩ := by
 apply ByteArray.ext
 apply Array.ext'
 simp
@[go_sem, simp] theorem ext_list (l : List UInt8) (a b : Nat) : (⟨l.toArray⟩ : ByteArray).extract a b = ⟨List.toArray ((l.drop a).take (b - a))⟩ := by
 apply ByteArray.ext
 apply Array.ext'
 simp
@[go_sem, simp] theorem str_get (l : List UInt8) (i : Nat) (h : i < (⟨l.toArray⟩ : ByteArray).size) : (⟨l.toArray⟩ : ByteArray)[i]'h = l[i]'(by simpa [ByteArray.size] using h) := rfl
theorem ofInt64_nat (a : Nat) (ha : a < 9223372036854775808) : (BitVec.ofInt 64 (a : Int)).toNat = a := by
 rw [BitVec.toNat_ofInt]
 omega
theorem u8_div16 (c : UInt8) : c / 16 = UInt8.ofNat (c.toNat / 16) := by
 have := c.toNat_lt
 apply UInt8.toNat_inj.1
 simp
 omega
theorem u8_mod16 (c : UInt8) : c % 16 = UInt8.ofNat (c.toNat % 16) := by
 have := c.toNat_lt
 apply UInt8.toNat_inj.1
 simp
 omega
theorem str_eq {l m : List UInt8} (h : l = m) : Value.string ⟨l.toArray⟩ = .string ⟨m.toArray⟩ := by rw [h]
theorem below_drewN {B : Nat} {a w : World} (h : Below B a w) (n : Nat) : Below B a (w.drewN n) := ⟨h.os, h.tape, h.output, h.size, h.block⟩
theorem Below.allocS {w w' : World} (h : Below w.heap.size w w') (o : Obj) : Below w.heap.size w (w'.alloc o) := h.alloc h.size o
structure Blk (w : World) (b : Nat) (cs : Array Value) : Prop where
 cell : ∀ o, w.cell? ⟨b, o, none⟩ = cs[o]?
 froz : ∀ o, w.frozen? ⟨b, o, none⟩ = false
 lt : b < w.heap.size
theorem Blk.keep {W w1 : World} (hb : Below W.heap.size W w1) {b : Nat} {cs : Array Value} (h : Blk W b cs) : Blk w1 b cs :=
 ⟨fun o => (hb.cell (p := ⟨b, o, none⟩) h.lt).trans (h.cell o), fun o => (hb.frozen (p := ⟨b, o, none⟩) h.lt).trans (h.froz o), Nat.lt_of_lt_of_le h.lt hb.size⟩
theorem Blk.new (w : World) (cs : Array Value) (t : TypeId) : Blk (w.alloc (.cells cs t)) w.heap.size cs :=
 ⟨fun o => by simp, fun o => by simp, by simp⟩
theorem Blk.new' {w : World} {cs : Array Value} {t : TypeId} {n : Nat} (h : n = w.heap.size) : Blk (w.alloc (.cells cs t)) n cs := by
 subst h; exact Blk.new w cs t
theorem Blk.alloc {w : World} {b : Nat} {cs : Array Value} (h : Blk w b cs) (o : Obj) : Blk (w.alloc o) b cs :=
 ⟨fun i => (World.cell?_alloc_past o b i h.lt).trans (h.cell i), fun i => (World.frozen?_alloc_past o b i h.lt).trans (h.froz i), by simp; have := h.lt; omega⟩
theorem Blk.drew {w : World} {b : Nat} {cs : Array Value} (h : Blk w b cs) : Blk w.drew b cs := ⟨h.cell, h.froz, h.lt⟩
theorem Blk.other {w : World} {b : Nat} {cs : Array Value} (h : Blk w b cs) {a : Addr} (ha : a.block ≠ b) (v : Value) : Blk (w.setCell a v) b cs :=
 ⟨fun i => (World.cell?_setCell_other w a ⟨b, i, none⟩ v (fun e => ha (by rw [e]))).trans (h.cell i), fun i => (World.frozen?_setCell _ _ _ _).trans (h.froz i), by simpa [World.setCell] using h.lt⟩
theorem Blk.set {w : World} {b : Nat} {cs : Array Value} (h : Blk w b cs) (i : Nat) (v : Value) : Blk (w.setCell ⟨b, i, none⟩ v) b (cs.setIfInBounds i v) := by
 refine ⟨fun o => ?_, fun o => (World.frozen?_setCell _ _ _ _).trans (h.froz o), by simpa [World.setCell] using h.lt⟩
 rw [Array.getElem?_setIfInBounds]
 by_cases e : i = o
 ·subst e
  rw [if_pos rfl]
  split
  ·rename_i hlt
   exact World.cell?_setCell_same w _ v (u := cs[i]) (by rw [h.cell i]; simp [hlt])
  ·rename_i hge
   have h1 : w.cell? ⟨b, i, none⟩ = none := by rw [h.cell i]; simp; omega
   have h2 := h.lt
   unfold World.cell? World.setCell at *
   simp only [Array.getElem?_modify, if_true] at *
   cases hh : w.heap[b]? with
   | none => simp
   | some ob => cases ob <;> simp_all
 ·rw [if_neg e, World.cell?_setCell_other w _ _ v (by intro hh; injection hh; contradiction)]
  exact h.cell o
theorem conv_str {P : Program} {w : World} (src e dst : TypeId) (hs : P.underlying src = some (.slice e)) (he : P.underlying e = some (.int .u8)) (hd : P.underlying dst = some .string) (b off len cap : Nat) (l : List UInt8) (hlen : l.length = len)
  (hcell : ∀ i, i < len → w.cell? ⟨b, off + i, none⟩ = some (.int .u8 ((l.getD i 0).toNat : Int))) :
  (convert src dst (.slice (some ⟨b, off, none⟩) len cap)).run P w = .ok (.string ⟨l.toArray⟩) w := by
 have h := run_convert_bytes_arg (P := P) w src e hs he b off len cap (l.map fun c => (c.toNat : Int)) (by simpa using hlen) (fun i hi => by
  rw [hcell i hi]
  simp [List.getD, List.getElem?_eq_getElem (show i < l.length by omega)]) dst hd
 rw [h]
 congr 2
 apply ByteArray.ext
 apply Array.ext'
 rw [strOfNums_data]
 simp only [List.map_map]
 refine (List.map_congr_left (g := id) fun c _ => ?_).trans (by simp)
 simp [Function.comp]
@[go_sem] theorem run_conv0 {P : Program} {W : World} (src dst g o n : Nat) (hs : P.underlying src = some (.slice (P.elem src))) (he : P.underlying (P.elem src) = some (.int .u8)) (hd : P.underlying dst = some .string) :
  (convert src dst (.slice (some ⟨g, o, none⟩) 0 n)).run P W = .ok (.string ⟨List.toArray []⟩) W := by
 have h' := run_convert_bytes_arg (P := P) W src _ hs he g o 0 n [] rfl (fun i hi => by omega) dst hd
 rw [h']; rfl
@[go_sem] theorem run_conv1 {P : Program} {W : World} (src dst g n : Nat) (hs : P.underlying src = some (.slice (P.elem src))) (he : P.underlying (P.elem src) = some (.int .u8)) (hd : P.underlying dst = some .string) :
  (convert src dst (.slice (some ⟨g, 0, none⟩) 1 n)).run P W = match W.cell? ⟨g, 0, none⟩ with
   | some (.int .u8 x) => .ok (.string ⟨List.toArray [UInt8.ofNat x.toNat]⟩) W
   | _ => (Conv.bytesToString (.slice (some ⟨g, 0, none⟩) 1 n)).run P W := by
 split
 ·rename_i x h
  have h' := run_convert_bytes_arg (P := P) W src _ hs he g 0 1 n [x] rfl (fun i hi => by
   have : i = 0 := by omega
   subst this; simpa using h) dst hd
  rw [h']; rfl
 ·exact run_convert_bytes_string W src dst _ _ 1 n hs he hd
@[go_sem] theorem run_conv2 {P : Program} {W : World} (src dst g n : Nat) (hs : P.underlying src = some (.slice (P.elem src))) (he : P.underlying (P.elem src) = some (.int .u8)) (hd : P.underlying dst = some .string) :
  (convert src dst (.slice (some ⟨g, 0, none⟩) 2 n)).run P W = match W.cell? ⟨g, 0, none⟩, W.cell? ⟨g, 1, none⟩ with
   | some (.int .u8 x), some (.int .u8 y) => .ok (.string ⟨List.toArray [UInt8.ofNat x.toNat, UInt8.ofNat y.toNat]⟩) W
   | _, _ => (Conv.bytesToString (.slice (some ⟨g, 0, none⟩) 2 n)).run P W := by
 split
 ·rename_i x y h h2
  have h' := run_convert_bytes_arg (P := P) W src _ hs he g 0 2 n [x, y] rfl (fun i hi => by
   match i, hi with
   | 0, _ => simpa using h
   | 1, _ => simpa using h2) dst hd
  rw [h']; rfl
 ·exact run_convert_bytes_string W src dst _ _ 2 n hs he hd
structure Mod (l : List Nat) (w w' : World) : Prop where
 os : w'.os = w.os
 tape : w'.tape = w.tape
 output : w'.output = w.output
 size : w.heap.size ≤ w'.heap.size
 block : ∀ k, k < w.heap.size → k ∉ l → w'.heap[k]? = w.heap[k]?
theorem Mod.refl (l : List Nat) (w : World) : Mod l w w := ⟨rfl, rfl, rfl, Nat.le_refl _, fun _ _ _ => rfl⟩
theorem Mod.trans {l : List Nat} {a b c : World} (h : Mod l a b) (k : Mod l b c) : Mod l a c :=
 ⟨k.os.trans h.os, k.tape.trans h.tape, k.output.trans h.output, Nat.le_trans h.size k.size, fun i hi hn => (k.block i (Nat.lt_of_lt_of_le hi h.size) hn).trans (h.block i hi hn)⟩
theorem Mod.drew {l : List Nat} {a w : World} (h : Mod l a w) : Mod l a w.drew := ⟨h.os, h.tape, h.output, h.size, h.block⟩
theorem Mod.of_below {l : List Nat} {w w' : World} (h : Below w.heap.size w w') : Mod l w w' := ⟨h.os, h.tape, h.output, h.size, fun k hk _ => h.block k hk⟩
theorem Mod.sub {l m : List Nat} {w w' : World} (h : Mod l w w') (hs : ∀ x ∈ l, x ∈ m ∨ w.heap.size ≤ x) : Mod m w w' :=
 ⟨h.os, h.tape, h.output, h.size, fun k hk hn => h.block k hk (fun hm => (hs k hm).elim hn (by omega))⟩
theorem Mod.alloc {l : List Nat} {a w : World} (h : Mod l a w) (o : Obj) : Mod l a (w.alloc o) :=
 h.trans ⟨rfl, rfl, rfl, by simp, fun k hk _ => Below.heap_alloc _ _ _ hk⟩
theorem Mod.setCell {l : List Nat} {a w : World} (h : Mod l a w) {p : Addr} (hp : p.block ∈ l ∨ a.heap.size ≤ p.block) (u : Value) : Mod l a (w.setCell p u) := by
 refine ⟨h.os, h.tape, h.output, by simpa [World.setCell] using h.size, fun k hk hn => (Below.heap_setCell _ _ _ _ ?_).trans (h.block k hk hn)⟩
 intro e
 subst e
 rcases hp with hp | hp
 ·exact hn hp
 ·omega
theorem Blk.of_block {w w' : World} {b : Nat} {cs : Array Value} (h : Blk w b cs) (hb : w'.heap[b]? = w.heap[b]?) (hs : w.heap.size ≤ w'.heap.size) : Blk w' b cs :=
 ⟨fun o => (World.cell?_of_block (w := w) hb).trans (h.cell o), fun o => (World.frozen?_of_block (w := w) hb).trans (h.froz o), Nat.lt_of_lt_of_le h.lt hs⟩
theorem Blk.mod {w w' : World} {b : Nat} {cs : Array Value} (h : Blk w b cs) {l : List Nat} (hm : Mod l w w') (hb : b ∉ l) : Blk w' b cs :=
 h.of_block (hm.block b h.lt hb) hm.size
theorem Blk.drewN {w : World} {b : Nat} {cs : Array Value} (h : Blk w b cs) (n : Nat) : Blk (w.drewN n) b cs := ⟨h.cell, h.froz, h.lt⟩
theorem Below.mod {B : Nat} {a w w' : World} {l : List Nat} (h : Below B a w) (hm : Mod l w w') (hB : B ≤ w.heap.size) (hl : ∀ x ∈ l, B ≤ x) : Below B a w' :=
 h.trans ⟨hm.os, hm.tape, hm.output, hm.size, fun k hk => hm.block k (by omega) (fun hx => by have := hl k hx; omega)⟩
end Go.Proofs.YthkpmlfaddlieaaGreatDoor
namespace Go.Proofs.YthkpmlfaddlieaaGreatDoor
open Go.RowKit
theorem infoU8 : (Tryz.prog.info? 5).map (fun i => (i.zero, i.size, i.bytes)) = some (some (.int .u8 0), 1, 1) := by kernel_rfl
def bv (l : List UInt8) : List Value := l.map fun c => Value.int .u8 (c.toNat : Int)
def BRow (w : World) (base : Nat) (v : Value) (l : List UInt8) : Prop := w.ownsRow base 5 1 v l.length (bv l)
theorem bv_len (l : List UInt8) : (bv l).length = l.length := by simp [bv]
theorem BRow.nil (w : World) (base : Nat) : BRow w base (.slice none 0 0) [] := ⟨rfl, .inl ⟨rfl, rfl⟩⟩
theorem BRow.cells {w : World} {base : Nat} {v : Value} {l : List UInt8} (h : BRow w base v l) :
  (v = .slice none 0 0 ∧ l = []) ∨ ∃ g cap, v = .slice (some ⟨g, 0, none⟩) l.length cap ∧ base ≤ g ∧ g < w.heap.size ∧ l.length ≤ cap ∧ cap ≤ maxLen ∧ (∀ i, i < l.length → w.cell? ⟨g, i, none⟩ = some (.int .u8 ((l.getD i 0).toNat : Int))) ∧ ∀ o, w.frozen? ⟨g, o, none⟩ = false := by
 rcases h.2 with ⟨h1, h2⟩ | ⟨g, cap, cur, hv, hb, hg, hn, hm, hc, ht⟩
 ·exact .inl ⟨h1, List.length_eq_zero_iff.1 h2⟩
 ·refine .inr ⟨g, cap, hv, hb, ?_, hn, hm, fun i hi => ?_, fun o => ?_⟩
  ·rcases Nat.lt_or_ge g w.heap.size with hlt | hge
   ·exact hlt
   ·rw [Array.getElem?_eq_none hge] at hg; cases hg
  ·have h1 : cur[i]? = (cur.toList.take (l.length * 1))[i]? := by
    rw [List.getElem?_take, if_pos (by omega)]; simp
   have h2 : w.cell? ⟨g, i, none⟩ = cur[i]? := by simp [World.cell?, hg]
   rw [h2, h1, ht]
   simp [bv, List.getD, List.getElem?_eq_getElem hi]
  ·simp [World.frozen?, hg]
theorem grown_below {w w' : World} {base : Nat} {row : Option Nat} (hg : w.grownBy w' row) (hb : base ≤ w.heap.size) (hr : ∀ k, row = some k → base ≤ k) : Below base w w' :=
 (Below.refl base w).grown hg hb hr
theorem BRow.own {w : World} {base : Nat} {v : Value} {l : List UInt8} (h : BRow w base v l) : ∀ k, v.ownBlock = some k → base ≤ k := by
 intro k hk
 rcases h.cells with ⟨rfl, _⟩ | ⟨g, cap, rfl, hb, _⟩
 ·cases hk
 ·cases hk; exact hb
theorem BRow.kept {w w' : World} {base : Nat} {v : Value} {l : List UInt8} (h : BRow w base v l) (hb : ∀ k, v.ownBlock = some k → w'.heap[k]? = w.heap[k]?) : BRow w' base v l := by
 refine ⟨h.1, h.2.imp id ?_⟩
 rintro ⟨g, cap, cur, hv, h1, h2, h3⟩
 subst hv
 exact ⟨g, cap, cur, rfl, h1, (hb g rfl).trans h2, h3⟩
theorem BRow.alloc {w : World} {base : Nat} {v : Value} {l : List UInt8} (h : BRow w base v l) (o : Obj) : BRow (w.alloc o) base v l := by
 refine h.kept (fun k hk => Below.heap_alloc _ _ _ ?_)
 rcases h.cells with ⟨rfl, rfl⟩ | ⟨g, cap, rfl, _, hlt, _⟩
 ·cases hk
 ·cases hk; exact hlt
def BSrc (w : World) (g o : Nat) (l : List UInt8) : Prop := ∀ i, i < l.length → w.cell? ⟨g, o + i, none⟩ = some (.int .u8 ((l.getD i 0).toNat : Int))
theorem bsrc1 (w : World) (x : UInt8) (a : Int) (t : TypeId) (ha : a = (x.toNat : Int)) : BSrc (w.alloc (.cells #[.int .u8 a] t)) w.heap.size 0 [x] := by
 intro i hi
 have : i = 0 := by simp at hi; omega
 subst this; subst ha
 simp
theorem BSrc.drew {w : World} {g o : Nat} {l : List UInt8} (h : BSrc w g o l) : BSrc w.drew g o l := h
theorem bsrc_news {w : World} {g o : Nat} {l : List UInt8} (h : BSrc w g o l) : ∀ j u, (bv l)[j]? = some u → w.cell? ((⟨g, o, none⟩ : Addr).add j) = some u := by
 intro j u hj
 have hjl : j < l.length := by
  rcases Nat.lt_or_ge j l.length with hlt | hge
  ·exact hlt
  ·rw [List.getElem?_eq_none (by rw [bv_len]; exact hge)] at hj; cases hj
 have hadd : (⟨g, o, none⟩ : Addr).add j = ⟨g, o + j, none⟩ := by unfold Addr.add; split <;> simp_all
 rw [hadd, h j hjl]
 simp [bv, List.getElem?_eq_getElem hjl] at hj
 simp [List.getD, List.getElem?_eq_getElem hjl, hj]
theorem bone (l : List UInt8) : ∀ u ∈ bv l, u.oneCell' = true := by
 intro u hu
 simp [bv] at hu
 obtain ⟨c, _, rfl⟩ := hu
 rfl
section
variable {ops : Array Oper} {o : Oper} {a : Act} {w : World} {Q : Exit → Act → World → Prop}
theorem wp_appB {K : Act → World → Prop} (s x : Operand)
  (ho : o.op = .call { callee := .builtin .append, args := #[s, x], argTypes := #[130, 130] })
  (base : Nat) (v : Value) (l : List UInt8) (hs : a.eval s = v) (hown : BRow w base v l)
  (g off m c : Nat) (news : List UInt8) (hx : a.eval x = .slice (some ⟨g, off, none⟩) m c) (hm : news.length = m) (hsrc : BSrc w g off news)
  (hlen : l.length + m ≤ 140737488355328) (hbase : base ≤ w.heap.size)
  (h : ∀ v' w', BRow w' base v' (l ++ news) → Below base w w' → K (a.put o.dst v') w') : o.wp Tryz.prog a w K Q := by
 obtain ⟨i0, hi, hz0, hz1, hz2⟩ := info_parts infoU8
 refine wp_append_own w s x 130 ho base 5 i0 (.int .u8 0) 1 1 Tryz.underlying130 hi hz0 hz1 hz2 rfl (by decide) v l.length (bv l) hs hown ⟨g, off, none⟩ m c (bv news) hx (by rw [bv_len, hm]; omega) (bsrc_news hsrc) (bone news)
  (by unfold maxLen; omega) (by omega) hbase (fun v' w' h2 h3 _ => h v' w' ?_ (grown_below h3 hbase hown.own))
 unfold BRow
 rw [List.length_append, hm, show bv (l ++ news) = bv l ++ bv news from by simp [bv]]
 exact h2
theorem wpList_appB {rest : List Oper} (hgd : o.guard = none) (s x : Operand)
  (ho : o.op = .call { callee := .builtin .append, args := #[s, x], argTypes := #[130, 130] })
  (base : Nat) (v : Value) (l : List UInt8) (hs : a.eval s = v) (hown : BRow w base v l)
  (g off m c : Nat) (news : List UInt8) (hx : a.eval x = .slice (some ⟨g, off, none⟩) m c) (hm : news.length = m) (hsrc : BSrc w g off news)
  (hlen : l.length + m ≤ 140737488355328) (hbase : base ≤ w.heap.size)
  (h : ∀ v' w', BRow w' base v' (l ++ news) → Below base w w' → wpList Tryz.prog ops Q rest (a.put o.dst v') w') : wpList Tryz.prog ops Q (o :: rest) a w :=
 wpList_plain hgd fun _ hK => wp_appB s x ho base v l hs hown g off m c news hx hm hsrc hlen hbase fun v' w' h2 h3 => hK _ _ (h v' w' h2 h3)
end
end Go.Proofs.YthkpmlfaddlieaaGreatDoor
namespace Go.Proofs.YthkpmlfaddlieaaGreatDoor
open Go.RowKit
theorem infoStr : (Tryz.prog.info? 9).map (fun i => (i.zero, i.size, i.bytes)) = some (some (.string ⟨#[]⟩), 1, 16) := by kernel_rfl
def sv (l : List (List UInt8)) : List Value := l.map fun c => Value.string ⟨c.toArray⟩
def SRow (w : World) (base : Nat) (v : Value) (l : List (List UInt8)) : Prop := w.ownsRow base 9 1 v l.length (sv l)
theorem sv_len (l : List (List UInt8)) : (sv l).length = l.length := by simp [sv]
theorem SRow.nil (w : World) (base : Nat) : SRow w base (.slice none 0 0) [] := ⟨rfl, .inl ⟨rfl, rfl⟩⟩
theorem SRow.cells {w : World} {base : Nat} {v : Value} {l : List (List UInt8)} (h : SRow w base v l) :
  (v = .slice none 0 0 ∧ l = []) ∨ ∃ g cap, v = .slice (some ⟨g, 0, none⟩) l.length cap ∧ base ≤ g ∧ g < w.heap.size ∧ l.length ≤ cap ∧ cap ≤ maxLen ∧ (∀ i, i < l.length → w.cell? ⟨g, i, none⟩ = some (.string ⟨List.toArray (l.getD i [])⟩)) ∧ ∀ o, w.frozen? ⟨g, o, none⟩ = false := by
 rcases h.2 with ⟨h1, h2⟩ | ⟨g, cap, cur, hv, hb, hg, hn, hm, hc, ht⟩
 ·exact .inl ⟨h1, List.length_eq_zero_iff.1 h2⟩
 ·refine .inr ⟨g, cap, hv, hb, ?_, hn, hm, fun i hi => ?_, fun o => ?_⟩
  ·rcases Nat.lt_or_ge g w.heap.size with hlt | hge
   ·exact hlt
   ·rw [Array.getElem?_eq_none hge] at hg; cases hg
  ·have h1 : cur[i]? = (cur.toList.take (l.length * 1))[i]? := by
    rw [List.getElem?_take, if_pos (by omega)]; simp
   have h2 : w.cell? ⟨g, i, none⟩ = cur[i]? := by simp [World.cell?, hg]
   rw [h2, h1, ht]
   simp [sv, List.getD, List.getElem?_eq_getElem hi]
  ·simp [World.frozen?, hg]
theorem SRow.form {w : World} {base : Nat} {v : Value} {l : List (List UInt8)} (h : SRow w base v l) : ∃ (a : Option Addr) (cap : Nat), v = .slice a l.length cap := by
 rcases h.cells with ⟨rfl, rfl⟩ | ⟨g, cap, rfl, _⟩
 ·exact ⟨none, 0, rfl⟩
 ·exact ⟨_, cap, rfl⟩
theorem SRow.own {w : World} {base : Nat} {v : Value} {l : List (List UInt8)} (h : SRow w base v l) : ∀ k, v.ownBlock = some k → base ≤ k := by
 intro k hk
 rcases h.cells with ⟨rfl, _⟩ | ⟨g, cap, rfl, hb, _⟩
 ·cases hk
 ·cases hk; exact hb
theorem SRow.kept {w w' : World} {base : Nat} {v : Value} {l : List (List UInt8)} (h : SRow w base v l) (hb : ∀ k, v.ownBlock = some k → w'.heap[k]? = w.heap[k]?) : SRow w' base v l := by
 refine ⟨h.1, h.2.imp id ?_⟩
 rintro ⟨g, cap, cur, hv, h1, h2, h3⟩
 subst hv
 exact ⟨g, cap, cur, rfl, h1, (hb g rfl).trans h2, h3⟩
theorem SRow.alloc {w : World} {base : Nat} {v : Value} {l : List (List UInt8)} (h : SRow w base v l) (o : Obj) : SRow (w.alloc o) base v l := by
 refine h.kept (fun k hk => Below.heap_alloc _ _ _ ?_)
 rcases h.cells with ⟨rfl, rfl⟩ | ⟨g, cap, rfl, _, hlt, _⟩
 ·cases hk
 ·cases hk; exact hlt
theorem SRow.drew {w : World} {base : Nat} {v : Value} {l : List (List UInt8)} (h : SRow w base v l) : SRow w.drew base v l := h
def SSrc (w : World) (g o : Nat) (l : List (List UInt8)) : Prop := ∀ i, i < l.length → w.cell? ⟨g, o + i, none⟩ = some (.string ⟨List.toArray (l.getD i [])⟩)
theorem ssrc1 (w : World) (x : List UInt8) (t : TypeId) : SSrc (w.alloc (.cells #[.string ⟨x.toArray⟩] t)) w.heap.size 0 [x] := by
 intro i hi
 have : i = 0 := by simp at hi; omega
 subst this
 simp
theorem SSrc.drew {w : World} {g o : Nat} {l : List (List UInt8)} (h : SSrc w g o l) : SSrc w.drew g o l := h
theorem ssrc_news {w : World} {g o : Nat} {l : List (List UInt8)} (h : SSrc w g o l) : ∀ j u, (sv l)[j]? = some u → w.cell? ((⟨g, o, none⟩ : Addr).add j) = some u := by
 intro j u hj
 have hjl : j < l.length := by
  rcases Nat.lt_or_ge j l.length with hlt | hge
  ·exact hlt
  ·rw [List.getElem?_eq_none (by rw [sv_len]; exact hge)] at hj; cases hj
 have hadd : (⟨g, o, none⟩ : Addr).add j = ⟨g, o + j, none⟩ := by unfold Addr.add; split <;> simp_all
 rw [hadd, h j hjl]
 simp [sv, List.getElem?_eq_getElem hjl] at hj
 simp [List.getD, List.getElem?_eq_getElem hjl, hj]
theorem sone (l : List (List UInt8)) : ∀ u ∈ sv l, u.oneCell' = true := by
 intro u hu
 simp [sv] at hu
 obtain ⟨c, _, rfl⟩ := hu
 rfl
section
variable {ops : Array Oper} {o : Oper} {a : Act} {w : World} {Q : Exit → Act → World → Prop}
theorem wp_appS {K : Act → World → Prop} (s x : Operand)
  (ho : o.op = .call { callee := .builtin .append, args := #[s, x], argTypes := #[24, 24] })
  (base : Nat) (v : Value) (l : List (List UInt8)) (hs : a.eval s = v) (hown : SRow w base v l)
  (g off m c : Nat) (news : List (List UInt8)) (hx : a.eval x = .slice (some ⟨g, off, none⟩) m c) (hm : news.length = m) (hsrc : SSrc w g off news)
  (hlen : l.length + m ≤ 8796093022208) (hbase : base ≤ w.heap.size)
  (h : ∀ v' w', SRow w' base v' (l ++ news) → Below base w w' → K (a.put o.dst v') w') : o.wp Tryz.prog a w K Q := by
 obtain ⟨i0, hi, hz0, hz1, hz2⟩ := info_parts infoStr
 refine wp_append_own w s x 24 ho base 9 i0 (.string ⟨#[]⟩) 1 16 Tryz.underlying24 hi hz0 hz1 hz2 rfl (by decide) v l.length (sv l) hs hown ⟨g, off, none⟩ m c (sv news) hx (by rw [sv_len, hm]; omega) (ssrc_news hsrc) (sone news)
  (by unfold maxLen; omega) (by omega) hbase (fun v' w' h2 h3 _ => h v' w' ?_ (grown_below h3 hbase hown.own))
 unfold SRow
 rw [List.length_append, hm, show sv (l ++ news) = sv l ++ sv news from by simp [sv]]
 exact h2
theorem wpList_appS {rest : List Oper} (hgd : o.guard = none) (s x : Operand)
  (ho : o.op = .call { callee := .builtin .append, args := #[s, x], argTypes := #[24, 24] })
  (base : Nat) (v : Value) (l : List (List UInt8)) (hs : a.eval s = v) (hown : SRow w base v l)
  (g off m c : Nat) (news : List (List UInt8)) (hx : a.eval x = .slice (some ⟨g, off, none⟩) m c) (hm : news.length = m) (hsrc : SSrc w g off news)
  (hlen : l.length + m ≤ 8796093022208) (hbase : base ≤ w.heap.size)
  (h : ∀ v' w', SRow w' base v' (l ++ news) → Below base w w' → wpList Tryz.prog ops Q rest (a.put o.dst v') w') : wpList Tryz.prog ops Q (o :: rest) a w :=
 wpList_plain hgd fun _ hK => wp_appS s x ho base v l hs hown g off m c news hx hm hsrc hlen hbase fun v' w' h2 h3 => hK _ _ (h v' w' h2 h3)
theorem step_appS {K : Act → World → Prop} {E : Prop} (hgd : o.guard = none) (s x : Operand)
  (ho : o.op = .call { callee := .builtin .append, args := #[s, x], argTypes := #[24, 24] })
  (base : Nat) (v : Value) (l : List (List UInt8)) (hs : a.eval s = v) (hown : SRow w base v l)
  (g off m c : Nat) (news : List (List UInt8)) (hx : a.eval x = .slice (some ⟨g, off, none⟩) m c) (hm : news.length = m) (hsrc : SSrc w g off news)
  (hlen : l.length + m ≤ 8796093022208) (hbase : base ≤ w.heap.size)
  (h : ∀ v' w', SRow w' base v' (l ++ news) → Below base w w' → K (a.put o.dst v') w') :
  if Region.wanted o (yielded ops a.tmps) = true then Oper.wp Tryz.prog o a w K Q else E := by
 have hw : Region.wanted o (yielded ops a.tmps) = true := by simp [Region.wanted, hgd]
 rw [if_pos hw]
 exact wp_appS s x ho base v l hs hown g off m c news hx hm hsrc hlen hbase h
end
end Go.Proofs.YthkpmlfaddlieaaGreatDoor
namespace Go.Proofs.YthkpmlfaddlieaaGreatDoor
open Go.RowKit Pl
def ka (kid : Nat → Bs) : List Value := (kidL kid).map fun s => .string ⟨s.toArray⟩
def nd (kind : Int) (path val : Bs) (kid : Nat → Bs) : List Value := .int .i64 kind :: .string ⟨path.toArray⟩ :: .string ⟨val.toArray⟩ :: ka kid
theorem ka_len (kid : Nat → Bs) : (ka kid).length = 16 := by simp [ka, kidL]
theorem nd_len (kind : Int) (path val : Bs) (kid : Nat → Bs) : (nd kind path val kid).length = 19 := by simp [nd, ka_len]
theorem ka_at (kid : Nat → Bs) (k : Nat) (hk : k < 16) : (ka kid)[k]? = some (.string ⟨List.toArray (kid k)⟩) := by
 simp [ka, kidL, hk]
theorem nd_at (kind : Int) (path val : Bs) (kid : Nat → Bs) (k : Nat) (hk : k < 16) : (nd kind path val kid)[3 + k]? = some (.string ⟨List.toArray (kid k)⟩) := by
 have : (nd kind path val kid)[3 + k]? = (ka kid)[k]? := by
  rw [Nat.add_comm]; rfl
 rw [this, ka_at kid k hk]
@[go_sem, simp] theorem nd0 (kind : Int) (path val : Bs) (kid : Nat → Bs) : (nd kind path val kid).toArray[0]? = some (.int .i64 kind) := rfl
@[go_sem, simp] theorem nd1 (kind : Int) (path val : Bs) (kid : Nat → Bs) : (nd kind path val kid).toArray[1]? = some (.string ⟨path.toArray⟩) := rfl
@[go_sem, simp] theorem nd2 (kind : Int) (path val : Bs) (kid : Nat → Bs) : (nd kind path val kid).toArray[2]? = some (.string ⟨val.toArray⟩) := rfl
@[go_sem, simp] theorem nd3 (kind : Int) (path val : Bs) (kid : Nat → Bs) : (nd kind path val kid).toArray[3]? = some (.string ⟨List.toArray (kid 0)⟩) := rfl
@[go_sem, simp] theorem nd0g (kind : Int) (path val : Bs) (kid : Nat → Bs) (h : 0 < (nd kind path val kid).length) : (nd kind path val kid)[0]'h = .int .i64 kind := rfl
@[go_sem, simp] theorem nd1g (kind : Int) (path val : Bs) (kid : Nat → Bs) (h : 1 < (nd kind path val kid).length) : (nd kind path val kid)[1]'h = .string ⟨path.toArray⟩ := rfl
@[go_sem, simp] theorem nd2g (kind : Int) (path val : Bs) (kid : Nat → Bs) (h : 2 < (nd kind path val kid).length) : (nd kind path val kid)[2]'h = .string ⟨val.toArray⟩ := rfl
@[go_sem, simp] theorem nd3g (kind : Int) (path val : Bs) (kid : Nat → Bs) (h : 3 < (nd kind path val kid).length) : (nd kind path val kid)[3]'h = .string ⟨List.toArray (kid 0)⟩ := rfl
@[go_sem, simp] theorem ka_size (kid : Nat → Bs) : (ka kid).toArray.size = 16 := by simp [ka_len]
@[go_sem, simp] theorem nd_size (kind : Int) (path val : Bs) (kid : Nat → Bs) : (nd kind path val kid).toArray.size = 19 := by simp [nd_len]
@[go_sem, simp] theorem ka_size' (kid : Nat → Bs) : (ka kid).length = 16 := ka_len kid
@[go_sem, simp] theorem nd_size' (kind : Int) (path val : Bs) (kid : Nat → Bs) : (nd kind path val kid).length = 19 := nd_len kind path val kid
theorem nd_range {w : World} {b : Nat} {kind : Int} {path val : Bs} {kid : Nat → Bs} (h : Blk w b (nd kind path val kid).toArray) : w.rangeAt b 0 (nd kind path val kid) := by
 intro j v hv
 rw [Nat.zero_add, h.cell j]
 simpa using hv
theorem blk_kid {w : World} {b : Nat} {kind : Int} {path val : Bs} {kid : Nat → Bs} (h : Blk w b (nd kind path val kid).toArray) (k : Nat) (hk : k < 16) : w.cell? ⟨b, 3 + k, none⟩ = some (.string ⟨List.toArray (kid k)⟩) := by
 rw [h.cell]
 simpa using nd_at kind path val kid k hk
theorem nd_info : (Tryz.prog.info? 173).map (·.size) = some 19 := by kernel_rfl
section
variable {ops : Array Oper} {rest : List Oper} {op : Oper} {a : Act} {w : World} {Q : Exit → Act → World → Prop}
theorem wpList_node (hgd : op.guard = none) (x : Operand) (ho : op.op = .load 173 x) {b : Nat} (hx : a.eval x = .pointer (some ⟨b, 0, none⟩)) {kind : Int} {path val : Bs} {kid : Nat → Bs} (hB : Blk w b (nd kind path val kid).toArray)
  (h : wpList Tryz.prog ops Q rest (a.put op.dst (.agg (nd kind path val kid).toArray)) w) : wpList Tryz.prog ops Q (op :: rest) a w :=
 wpList_load_mid hgd 173 x ho b 0 hx (nd kind path val kid) _ (nd_range hB) Tryz.underlying173 rfl (by rw [nd_len]; exact nd_info) h
end
end Go.Proofs.YthkpmlfaddlieaaGreatDoor
