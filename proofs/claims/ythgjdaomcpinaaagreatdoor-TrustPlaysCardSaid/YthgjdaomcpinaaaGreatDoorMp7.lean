/- HeadP, Open, StrV, MVal. -/
import Derived.ChangeKeysEq
import Derived.Test.YthgjdaomcpinaaaGreatDoorMp6
set_option linter.unnecessarySimpa false
set_option linter.unusedSimpArgs false
set_option linter.unusedVariables false
set_option maxRecDepth 100000
set_option maxHeartbeats 32000000
namespace Go.Proofs.YthgjdaomcpinaaaGreatDoor
namespace Pl
def linksTo (h : Nat) : Nat → List Int
 | 0 => []
 | k + 1 => if h % 2 ^ (k + 1) = 0 then linksTo h k ++ [(h : Int) - (2 ^ (k + 1) : Nat)] else linksTo h k
def linksF (h : Int) : List Int := if h < 1 ∨ 1048576 < h then [] else linksTo h.toNat 20
theorem linksTo_yes {h k : Nat} (hd : h % 2 ^ (k + 1) = 0) : linksTo h (k + 1) = linksTo h k ++ [(h : Int) - (2 ^ (k + 1) : Nat)] := if_pos hd
theorem linksTo_no {h k : Nat} (hd : h % 2 ^ (k + 1) ≠ 0) : linksTo h (k + 1) = linksTo h k := if_neg hd
theorem links_stop {h k : Nat} (hd : h % 2 ^ (k + 1) ≠ 0) : ∀ m, linksTo h (k + m) = linksTo h k
 | 0 => rfl
 | m + 1 => by
  rw [← links_stop hd m]
  show linksTo h (k + m + 1) = _
  refine linksTo_no (fun h0 => hd ?_)
  have h1 : 2 ^ (k + 1) ∣ 2 ^ (k + m + 1) := Nat.pow_dvd_pow 2 (by omega)
  exact Nat.mod_eq_zero_of_dvd (Nat.dvd_trans h1 (Nat.dvd_of_mod_eq_zero h0))
theorem links_len (h : Nat) : ∀ k, (linksTo h k).length ≤ k
 | 0 => Nat.le_refl _
 | k + 1 => by
  have := links_len h k
  unfold linksTo
  split
  ·rw [List.length_append]; simp; omega
  ·omega
theorem linksF_len (h : Int) : (linksF h).length ≤ 20 := by
 unfold linksF
 split
 ·simp
 ·exact links_len _ 20
theorem linksF_in {h : Int} (h1 : 1 ≤ h) (h2 : h ≤ 1048576) : linksF h = linksTo h.toNat 20 := if_neg (by omega)
theorem linksF_out {h : Int} (h1 : h < 1 ∨ 1048576 < h) : linksF h = [] := if_pos h1
def flagB (b : Bool) : Bs := if b then [1] else [0]
def mFlag (s : Bs) (c : Int) : Bool × Bs × Int :=
 if c ≠ 0 then (false, s, c) else match s with
 | [] => (false, [], 20)
 | b :: r => if 1 < b.toNat then (false, b :: r, 3) else (b == 1, r, 0)
theorem mFlag_bad (s : Bs) (c : Int) (h : c ≠ 0) : mFlag s c = (false, s, c) := by unfold mFlag; rw [if_pos h]
theorem mFlag_eats (s : Bs) (c : Int) (h : (mFlag s c).2.2 = 0) : c = 0 ∧ s = flagB (mFlag s c).1 ++ (mFlag s c).2.1 := by
 unfold mFlag at h ⊢
 split at h
 ·rename_i h1; exact absurd h h1
 ·rename_i h1
  rw [if_neg h1]
  refine ⟨by simpa using h1, ?_⟩
  cases s with
  | nil => exact absurd h (by decide)
  | cons b r =>
   simp only at h ⊢
   split at h
   ·exact absurd h (by simp)
   ·rename_i h2
    rw [if_neg h2]
    have hb : b = 0 ∨ b = 1 := by
     rcases Nat.lt_or_ge b.toNat 1 with h3 | h3
     ·left; exact UInt8.toNat_inj.1 (by simpa using h3)
     ·right; exact UInt8.toNat_inj.1 (by simp; omega)
    rcases hb with rfl | rfl <;> rfl
theorem mFlag_flag (b : Bool) (r : Bs) : mFlag (flagB b ++ r) 0 = (b, r, 0) := by cases b <;> rfl
theorem mNumE (s : Bs) (c : Int) (h : (mNum s c).2.2 = 0) : c = 0 ∧ s = num (mNum s c).1 ++ (mNum s c).2.1 := by
 unfold mNum at h ⊢
 split at h
 ·rename_i hc; exact absurd h hc
 ·rename_i hc
  split at h
  ·rename_i h2; exact absurd h h2
  ·rename_i h2
   have h3 : (take s).2.2 = 0 := by simpa using h2
   rw [if_neg hc, if_neg h2]
   exact ⟨by simpa using hc, take_eats s h3⟩
theorem mEnd0 (s : Bs) (c : Int) (h : mEnd s c = 0) : s = [] ∧ c = 0 := by
 unfold mEnd at h
 split at h
 ·exact absurd h (by decide)
 ·rename_i hn
  refine ⟨?_, h⟩
  cases s with
  | nil => rfl
  | cons a r => exact absurd ⟨h, by simp⟩ hn
structure Hd where
 height : Int
 epoch : Int
 view : Int
 last : Bool
 parent : Bs
 state : Bs
 receipts : Bs
 txs : Bs
 members : Bs
 next : Bs
 skips : List Bs
def hdZ : Hd := ⟨0, 0, 0, false, [], [], [], [], [], [], []⟩
def may32 (s : Bs) : Bool := decide (s = []) || decide (s.length = 32)
def firstH (h : Hd) : Bool :=
 if 0 < h.height then decide (h.parent.length = 32) else decide (h.parent = []) && decide (h.epoch = 0) && decide (h.view = 0) && h.last
def inH (n most : Int) : Bool := decide (0 ≤ n) && decide (n ≤ most)
def numsH (h : Hd) : Bool := inH h.height 1048576 && inH h.epoch 1048576 && inH h.view 1048576
def endH (h : Hd) : Bool := decide (h.txs.length = 32) && decide (h.members.length = 32) && decide (h.next.length = 32) && may32 h.state && may32 h.receipts
def sumsH (h : Hd) : Bool :=
 if 0 < h.height then decide (h.skips.length = (linksF h.height).length) && h.skips.all (fun s => decide (s.length = 32)) && endH h
 else decide (h.skips = []) && endH h
def fineH (h : Hd) : Bool := numsH h && firstH h && sumsH h && (h.last || decide (h.next = h.members))
def fineHR (h : Hd) : Bool :=
 numsH h && endH h && decide (h.skips.length = (linksF h.height).length) && h.skips.all (fun s => decide (s.length = 32)) &&
 (if h.height = 0 then decide (h.parent = []) && decide (h.epoch = 0) && decide (h.view = 0) && h.last else decide (h.parent.length = 32) && (h.last || decide (h.next = h.members)))
theorem fineHR_eq (h : Hd) : fineHR h = fineH h := by
 unfold fineHR fineH
 by_cases hn : numsH h = true
 ·have h0 : 0 ≤ h.height := by
   unfold numsH inH at hn
   simp only [Bool.and_eq_true, decide_eq_true_eq] at hn
   exact hn.1.1.1
  by_cases hz : h.height = 0
  ·have h1 : ¬ 0 < h.height := by omega
   have h2 : linksF h.height = [] := linksF_out (by omega)
   rw [if_pos hz]
   unfold firstH sumsH
   rw [if_neg h1, if_neg h1, h2]
   cases h.last
   ·simp
   ·cases hs : h.skips <;> simp <;> (cases decide (h.parent = []) <;> cases decide (h.epoch = 0) <;> cases decide (h.view = 0) <;> cases endH h <;> cases numsH h <;> rfl)
  ·have h1 : 0 < h.height := by omega
   rw [if_neg hz]
   unfold firstH sumsH
   rw [if_pos h1, if_pos h1]
   cases numsH h <;> cases endH h <;> cases decide (h.skips.length = (linksF h.height).length) <;> cases h.skips.all (fun s => decide (s.length = 32)) <;> cases decide (h.parent.length = 32) <;> rfl
 ·have hn' : numsH h = false := by simpa using hn
  simp [hn']
def writH (h : Hd) : Bs :=
 num h.height.toNat ++ num h.epoch.toNat ++ num h.view.toNat ++ flagB h.last ++ text h.parent ++ text h.state ++ text h.receipts ++ h.txs ++ h.members ++ h.next ++ h.skips.flatten
def mSk (s : Bs) (c : Int) : Nat → List Bs × Bs × Int
 | 0 => ([], s, c)
 | n + 1 => ((mSk s c n).1 ++ [(mBytes (mSk s c n).2.1 (mSk s c n).2.2 32).1], (mBytes (mSk s c n).2.1 (mSk s c n).2.2 32).2.1, (mBytes (mSk s c n).2.1 (mSk s c n).2.2 32).2.2)
theorem mSk_len (s : Bs) (c : Int) : ∀ n, (mSk s c n).1.length = n
 | 0 => rfl
 | n + 1 => by unfold mSk; rw [List.length_append, mSk_len s c n]; rfl
theorem mSk_eats (s : Bs) (c : Int) : ∀ n, (mSk s c n).2.2 = 0 → c = 0 ∧ s = (mSk s c n).1.flatten ++ (mSk s c n).2.1
 | 0, h => ⟨h, rfl⟩
 | n + 1, h => by
  unfold mSk at h ⊢
  obtain ⟨h1, h2, _⟩ := mBytes_eats _ _ 32 h
  obtain ⟨h3, h4⟩ := mSk_eats s c n h1
  refine ⟨h3, ?_⟩
  rw [List.flatten_append]
  simp only [List.flatten_cons, List.flatten_nil, List.append_nil]
  rw [List.append_assoc]
  exact h4.trans (congrArg ((mSk s c n).1.flatten ++ ·) h2)
structure RdSt where
 h : Hd
 s : Bs
 c : Int
def rdH (s : Bs) : RdSt :=
 let a := mNum s 0
 let b := mNum a.2.1 a.2.2
 let v := mNum b.2.1 b.2.2
 let f := mFlag v.2.1 v.2.2
 let p := mText f.2.1 f.2.2 32
 let st := mText p.2.1 p.2.2 32
 let rc := mText st.2.1 st.2.2 32
 let tx := mBytes rc.2.1 rc.2.2 32
 let me := mBytes tx.2.1 tx.2.2 32
 let ne := mBytes me.2.1 me.2.2 32
 let sk := mSk ne.2.1 ne.2.2 (linksF a.1).length
 ⟨⟨a.1, b.1, v.1, f.1, p.1, st.1, rc.1, tx.1, me.1, ne.1, sk.1⟩, sk.2.1, sk.2.2⟩
theorem rdH_eats (s : Bs) (h : (rdH s).c = 0) : s = writH (rdH s).h ++ (rdH s).s := by
 unfold rdH at h ⊢
 simp only at h ⊢
 obtain ⟨h1, e1⟩ := mSk_eats _ _ _ h
 obtain ⟨h2, e2, _⟩ := mBytes_eats _ _ 32 h1
 obtain ⟨h3, e3, _⟩ := mBytes_eats _ _ 32 h2
 obtain ⟨h4, e4, _⟩ := mBytes_eats _ _ 32 h3
 obtain ⟨h5, e5, _⟩ := mText_eats _ _ _ h4
 obtain ⟨h6, e6, _⟩ := mText_eats _ _ _ h5
 obtain ⟨h7, e7, _⟩ := mText_eats _ _ _ h6
 obtain ⟨h8, e8⟩ := mFlag_eats _ _ h7
 obtain ⟨h9, e9⟩ := mNumE _ _ h8
 obtain ⟨h10, e10⟩ := mNumE _ _ h9
 obtain ⟨_, e11⟩ := mNumE _ _ h10
 unfold writH
 simp only [Int.toNat_natCast, List.append_assoc]
 rw [← e1]
 simp only [Int.natCast_zero, Int.cast_ofNat_Int] at *
 rw [← e2, ← e3, ← e4, ← e5, ← e6, ← e7, ← e8, ← e9, ← e10]
 exact e11
def decH (s : Bs) : Hd × Int := if mEnd (rdH s).s (rdH s).c = 0 ∧ fineH (rdH s).h = true then ((rdH s).h, 0) else (hdZ, 190)
def rdecH (s : Bs) : Hd × Int := if (rdH s).c = 0 ∧ fineH (rdH s).h = true ∧ writH (rdH s).h = s then ((rdH s).h, 0) else (hdZ, 190)
theorem rdecH_eq (s : Bs) : rdecH s = decH s := by
 unfold rdecH decH
 by_cases hc : (rdH s).c = 0
 ·have he := rdH_eats s hc
  by_cases hs : (rdH s).s = []
  ·rw [hs, List.append_nil] at he
   by_cases hf : fineH (rdH s).h = true
   ·rw [if_pos ⟨hc, hf, he.symm⟩, if_pos ⟨by simp [mEnd, hc, hs], hf⟩]
   ·rw [if_neg (fun h => hf h.2.1), if_neg (fun h => hf h.2)]
  ·rw [if_neg, if_neg]
   ·rintro ⟨h, _⟩
    exact hs (mEnd0 _ _ h).1
   ·rintro ⟨_, _, h⟩
    apply hs
    have := congrArg List.length he
    rw [List.length_append, h] at this
    exact List.eq_nil_of_length_eq_zero (by omega)
 ·rw [if_neg (fun h => hc h.1), if_neg (fun h => hc (mEnd0 _ _ h.1).2)]
theorem decH_two (s : Bs) : ((decH s).2 = 0 ∧ fineH (decH s).1 = true ∧ writH (decH s).1 = s) ∨ decH s = (hdZ, 190) := by
 rw [← rdecH_eq]
 unfold rdecH
 split
 ·rename_i h
  exact .inl ⟨rfl, h.2.1, h.2.2⟩
 ·exact .inr rfl
end Pl
end Go.Proofs.YthgjdaomcpinaaaGreatDoor
namespace Go.Proofs.YthgjdaomcpinaaaGreatDoor
open Go.ChangeShapes Go.WideShapes Go.ChangeAt Go.RowKit
inductive Sh where
 | int (k : IntKind)
 | str
 | bool
 | slice (c : Nat) (e : Sh)
 | unit
 | pair (a b : Sh)
def Sh.cells : Sh → Nat
 | .unit => 0
 | .pair a b => a.cells + b.cells
 | _ => 1
def Sh.Ok (w : World) : Sh → List Value → Prop
 | .int k, cs => ∃ n, cs = [.int k n] ∧ (Lit.int k n).wf = true
 | .str, cs => ∃ s : ByteArray, cs = [.string s] ∧ s.size ≤ maxLen
 | .bool, cs => ∃ b, cs = [.bool b]
 | .slice c e, cs => cs = [.slice none 0 0] ∨ ∃ a len cap, cs = [.slice (some a) len cap] ∧ len ≤ cap ∧ cap ≤ maxLen ∧
   ∀ i, i < len → ∃ cs', w.cells? 0 (a.add (i * c)) c = some cs' ∧ e.Ok w cs'
 | .unit, cs => cs = []
 | .pair a b, cs => ∃ x y, cs = x ++ y ∧ a.Ok w x ∧ b.Ok w y
theorem Sh.Ok.len {w : World} : ∀ {s : Sh} {cs : List Value}, s.Ok w cs → cs.length = s.cells
 | .int _, _, h => by obtain ⟨n, rfl, _⟩ := h; rfl
 | .str, _, h => by obtain ⟨n, rfl, _⟩ := h; rfl
 | .bool, _, h => by obtain ⟨n, rfl⟩ := h; rfl
 | .slice _ _, _, h => by rcases h with rfl | ⟨a, l, c, rfl, _⟩ <;> rfl
 | .unit, _, h => by rw [show _ = [] from h]; rfl
 | .pair a b, _, h => by
  obtain ⟨x, y, rfl, hx, hy⟩ := h
  simp [Sh.cells, hx.len, hy.len]
theorem slice_cells {w : World} {a : Addr} {c len : Nat} {e : Sh} (hc : 0 < c) (hlen : 0 < len)
  (h : ∀ i, i < len → ∃ cs', w.cells? 0 (a.add (i * c)) c = some cs' ∧ e.Ok w cs') :
  a.spot = none ∧ ∀ i, i < len → ∃ cs', e.Ok w cs' ∧ cs'.length = c ∧ ∀ j, j < c → w.cell? ⟨a.block, a.off + i * c + j, none⟩ = cs'[j]? := by
 obtain ⟨b, off, spot⟩ := a
 have hs : spot = none := by
  obtain ⟨cs', h1, _⟩ := h 0 hlen
  obtain ⟨_, hl, h2⟩ := World.cells?_some h1
  have h3 := h2 0 hc
  simp only [Nat.zero_mul, Addr.add, if_true] at h3
  cases spot with
  | none => rfl
  | some s =>
   exfalso
   unfold World.cell? at h3
   rw [List.getElem?_eq_getElem (by omega)] at h3
   split at h3 <;> simp at h3
 subst hs
 refine ⟨rfl, fun i hi => ?_⟩
 obtain ⟨cs', h1, ho⟩ := h i hi
 obtain ⟨_, hl, h2⟩ := World.cells?_some h1
 refine ⟨cs', ho, hl, fun j hj => ?_⟩
 have h3 := h2 j hj
 rw [← h3]
 congr 1
 unfold Addr.add
 by_cases hi0 : i * c = 0
 ·by_cases hj0 : j = 0
  ·simp [hi0, hj0]
  ·simp [hi0, hj0]
 ·by_cases hj0 : j = 0
  ·simp [hi0, hj0]
  ·simp [hi0, hj0]
def repSh (a : Sh) : Nat → Sh
 | 0 => .unit
 | n + 1 => .pair a (repSh a n)
def fieldsSh (P : Program) (f : TypeId → Option Sh) : List Field → Nat → Nat → Option Sh
 | [], off, total => if off = total then some .unit else none
 | x :: xs, off, total =>
  match f x.type with
  | some a => if x.offset = off ∧ a.cells = P.cellsOf x.type then (fieldsSh P f xs (off + a.cells) total).map (.pair a) else none
  | none => none
def shapeOf (P : Program) : Nat → TypeId → Option Sh
 | 0, _ => none
 | n + 1, t =>
  match P.underlying t with
  | some .bool => some .bool
  | some (.int k) => some (.int k)
  | some .string => some .str
  | some (.slice e) => match shapeOf P n e with
   | some s => if s.cells = P.cellsOf e then some (.slice (P.cellsOf e) s) else none
   | none => none
  | some (.struct fs) => fieldsSh P (shapeOf P n) fs.toList 0 (P.cellsOf t)
  | some (.array k e) => match shapeOf P n e with
   | some s => if s.cells = P.cellsOf e ∧ k * P.cellsOf e = P.cellsOf t then some (repSh s k) else none
   | none => none
  | _ => none
section
variable {H : Type} {enc : TypeId × Value → H} {P : Program} {w : World} {spare : Nat → Bool} {held : Bool}
theorem rep_ok {s : Sh} {c : Nat} (hc : s.cells = c) : ∀ (k : Nat) (cs : List Value), cs.length = k * c →
  (∀ i, i < k → s.Ok w ((cs.drop (i * c)).take c)) → (repSh s k).Ok w cs
 | 0, cs, hl, _ => by
  have : cs = [] := by simpa using hl
  exact this
 | k + 1, cs, hl, h => by
  refine ⟨cs.take c, cs.drop c, (List.take_append_drop c cs).symm, by simpa using h 0 (by omega), rep_ok hc k _ ?_ (fun i hi => ?_)⟩
  ·rw [List.length_drop, hl, Nat.succ_mul]; omega
  ·have := h (i + 1) (by omega)
   rw [List.drop_drop]
   rw [Nat.succ_mul] at this
   rwa [Nat.add_comm c (i * c)]
theorem fields_ok {f : TypeId → Option Sh} {n : Nat} (ih : ∀ t s, f t = some s → ∀ cs x, DataW.trod enc P w 0 spare held n t cs = some x → s.Ok w cs) {cs : List Value} :
  ∀ (fs : List Field) (off total : Nat) (s : Sh), fieldsSh P f fs off total = some s → cs.length = total →
   (∀ x ∈ fs, ∃ y, DataW.trod enc P w 0 spare held n x.type ((cs.drop x.offset).take (P.cellsOf x.type)) = some y) → s.Ok w (cs.drop off)
 | [], off, total, s, h, hl, _ => by
  simp only [fieldsSh] at h
  split at h
  ·cases h
   rename_i e
   show cs.drop off = []
   rw [e, ← hl]; simp
  ·cases h
 | x :: xs, off, total, s, h, hl, hx => by
  simp only [fieldsSh] at h
  split at h
  ·rename_i a ha
   split at h
   ·rename_i hc
    cases hr : fieldsSh P f xs (off + a.cells) total with
    | none => rw [hr] at h; cases h
    | some r =>
     rw [hr] at h
     cases h
     obtain ⟨y, hy⟩ := hx x (by simp)
     rw [hc.1] at hy
     have h1 := ih _ _ ha _ _ hy
     have h2 := fields_ok ih xs (off + a.cells) total r hr hl (fun z hz => hx z (by simp [hz]))
     refine ⟨(cs.drop off).take (P.cellsOf x.type), (cs.drop off).drop (P.cellsOf x.type), (List.take_append_drop _ _).symm, h1, ?_⟩
     rw [List.drop_drop, ← hc.2]
     exact h2
   ·cases h
  ·cases h
theorem shape_ok : ∀ (m : Nat) (t : TypeId) (s : Sh), shapeOf P m t = some s → ∀ (fuel : Nat) (cs : List Value) (x : DataW H × List MemPlace),
  DataW.trod enc P w 0 spare held fuel t cs = some x → s.Ok w cs
 | 0, _, _, h, _, _, _, _ => by cases h
 | m + 1, t, s, h, fuel, cs, x, hx => by
  unfold shapeOf at h
  split at h
  ·rename_i ht
   cases h
   obtain ⟨b, hb, _⟩ := DataW.trod_bool ht hx
   exact ⟨b, hb⟩
  ·rename_i k ht
   cases h
   obtain ⟨b, hb, _, hw⟩ := DataW.trod_int ht hx
   exact ⟨b, hb, hw⟩
  ·rename_i ht
   cases h
   obtain ⟨b, hb, _, hw⟩ := DataW.trod_string ht hx
   exact ⟨b, hb, hw⟩
  ·rename_i e ht
   split at h
   ·rename_i s' hs
    split at h
    ·cases h
     rcases DataW.trod_slice ht hx with ⟨h1, _⟩ | ⟨a, len, cap, elems, rest, n, _, hcs, _, _, hl, hm, hlen, hel, _⟩
     ·exact .inl h1
     ·refine .inr ⟨a, len, cap, hcs, hl, hm, fun i hi => ?_⟩
      have h2 := hel i hi
      rw [List.getElem?_eq_getElem (by omega)] at h2
      cases hc : w.cells? 0 (a.add (i * P.cellsOf e)) (P.cellsOf e) with
      | none => rw [hc] at h2; cases h2
      | some cs' =>
       rw [hc] at h2
       exact ⟨cs', rfl, shape_ok m e _ hs n cs' _ h2⟩
    ·cases h
   ·cases h
  ·rename_i fs ht
   obtain ⟨xs, n, _, _, hl, hlen, hf⟩ := DataW.trod_struct ht hx
   have := fields_ok (cs := cs) (n := n) (fun t s hs cs x hx => shape_ok m t s hs n cs x hx) fs.toList 0 (P.cellsOf t) s h hl (fun f hmem => by
    obtain ⟨i, hi, rfl⟩ := List.getElem_of_mem hmem
    have h3 := hf i fs.toList[i] (by simp)
    rw [List.getElem?_eq_getElem (by rw [hlen]; simpa using hi)] at h3
    exact ⟨_, h3⟩)
   simpa using this
  ·rename_i k e ht
   split at h
   ·rename_i s' hs
    split at h
    ·rename_i hc
     cases h
     obtain ⟨xs, n, _, _, hl, hlen, hf⟩ := DataW.trod_array ht hx
     refine rep_ok hc.1 k cs (hl.trans hc.2.symm) (fun i hi => ?_)
     have h3 := hf i hi
     rw [List.getElem?_eq_getElem (by omega)] at h3
     exact shape_ok m e _ hs n _ _ h3
    ·cases h
   ·cases h
  ·cases h
def Sh.Val (w : World) (s : Sh) (v : Value) : Prop :=
 match s with
 | .unit | .pair _ _ => ∃ cs : List Value, v = .agg cs.toArray ∧ s.Ok w cs
 | s => s.Ok w [v]
theorem fieldsSh_agg {f : TypeId → Option Sh} : ∀ {fs : List Field} {off total : Nat} {s : Sh}, fieldsSh P f fs off total = some s → s = .unit ∨ ∃ a b, s = .pair a b
 | [], off, total, s, h => by
  simp only [fieldsSh] at h
  split at h
  ·cases h; exact .inl rfl
  ·cases h
 | x :: xs, off, total, s, h => by
  simp only [fieldsSh] at h
  split at h
  ·split at h
   ·cases hr : fieldsSh P f xs (off + _) total with
    | none => rw [hr] at h; cases h
    | some r => rw [hr] at h; cases h; exact .inr ⟨_, _, rfl⟩
   ·cases h
  ·cases h
theorem shape_val {r : Reach} {b0 : Nat} {m : Nat} {t : TypeId} {s : Sh} (h : shapeOf P m t = some s) {v : Value} {d : DataW H} {ps : List MemPlace}
  (hval : Value.okWide P w r b0 t v) (hd : DataW.Trod enc P w 0 spare held t v d ps) : s.Val w v := by
 obtain ⟨fuel, hf⟩ := hd
 have hok := shape_ok m t s h fuel _ _ hf
 cases m with
 | zero => cases h
 | succ m =>
  unfold shapeOf at h
  split at h
  ·rename_i ht
   cases h
   obtain ⟨b, rfl⟩ := okWide_bool ht hval
   exact hok
  ·rename_i k ht
   cases h
   obtain ⟨b, rfl⟩ := okWide_int ht hval
   exact hok
  ·rename_i ht
   cases h
   obtain ⟨b, rfl⟩ := okWide_string ht hval
   exact hok
  ·rename_i e ht
   split at h
   ·split at h
    ·cases h
     obtain ⟨a, l, c, rfl⟩ := okWide_slice ht hval
     exact hok
    ·cases h
   ·cases h
  ·rename_i fs ht
   obtain ⟨cs, rfl, _⟩ := okWide_struct ht hval
   rcases fieldsSh_agg h with rfl | ⟨a, b, rfl⟩
   ·exact ⟨cs.toList, by simp, hok⟩
   ·exact ⟨cs.toList, by simp, hok⟩
  ·rename_i k e ht
   have hv : ∃ cs : Array Value, v = .agg cs := by
    simp only [Value.okWide, ht] at hval
    obtain ⟨cs, h1, _⟩ := hval
    exact ⟨cs, h1⟩
   obtain ⟨cs, rfl⟩ := hv
   split at h
   ·split at h
    ·cases h
     cases k with
     | zero => exact ⟨cs.toList, by simp, hok⟩
     | succ k => exact ⟨cs.toList, by simp, hok⟩
    ·cases h
   ·cases h
  ·cases h
end
end Go.Proofs.YthgjdaomcpinaaaGreatDoor
namespace Go.Proofs.YthgjdaomcpinaaaGreatDoor
open Go.ChangeShapes Go.WideShapes Go.ChangeAt Go.RowKit Pl
theorem str_list (s : ByteArray) : s = ⟨List.toArray s.data.toList⟩ := by
 apply ByteArray.ext
 simp
theorem str_beq (x y : List UInt8) : ((⟨List.toArray x⟩ : ByteArray) == ⟨List.toArray y⟩) = decide (x = y) := by
 rw [beq_toListBytes, ByteArray.toList_eq, ByteArray.toList_eq, Bool.eq_iff_iff]
 simp
end Go.Proofs.YthgjdaomcpinaaaGreatDoor
namespace Go.Proofs.YthgjdaomcpinaaaGreatDoor
open Go.ChangeShapes Go.WideShapes Go.ChangeAt Go.RowKit Pl
theorem cell_lt {W : World} {g o : Nat} {x : Value} (h : W.cell? ⟨g, o, none⟩ = some x) : g < W.heap.size := by
 rcases Nat.lt_or_ge g W.heap.size with hlt | hge
 ·exact hlt
 ·unfold World.cell? at h
  rw [Array.getElem?_eq_none hge] at h
  simp at h
theorem ms_val {W : World} {v : Value} (h : Sh.Val W (.slice 2 (.pair .str (.pair (.int .i64) .unit))) v) : ∃ l : List (Bs × Int), MS W v l := by
 rcases (show _ ∨ _ from h) with h | ⟨a, len, cap, hv, hlc, hcm, hel⟩
 ·obtain rfl : v = .slice none 0 0 := by simpa using h
  exact ⟨[], none, 0, rfl, Nat.le_refl _, by unfold maxLen; omega, fun h => absurd rfl h⟩
 ·obtain rfl : v = .slice (some a) len cap := by simpa using hv
  rcases Nat.eq_zero_or_pos len with h0 | hpos
  ·subst h0
   exact ⟨[], some a, cap, rfl, hlc, hcm, fun h => absurd rfl h⟩
  ·obtain ⟨hs, hc⟩ := slice_cells (by decide) hpos hel
   have hf : ∀ i, ∃ x : Bs × Int, i < len → W.cell? ⟨a.block, a.off + i * 2, none⟩ = some (.string ⟨List.toArray x.1⟩) ∧ W.cell? ⟨a.block, a.off + i * 2 + 1, none⟩ = some (.int .i64 x.2) := by
    intro i
    by_cases hi : i < len
    ·obtain ⟨cs, ⟨x, y, rfl, ⟨s, rfl, _⟩, z, u, rfl, ⟨n, rfl, _⟩, hu⟩, _, hj⟩ := hc i hi
     have h0 := hj 0 (by decide)
     have h1 := hj 1 (by decide)
     refine ⟨(s.data.toList, n), fun _ => ⟨?_, ?_⟩⟩
     ·rw [← str_list s]
      simpa using h0
     ·simpa using h1
    ·exact ⟨([], 0), fun h => absurd h hi⟩
   obtain ⟨f, hf⟩ := Classical.axiomOfChoice hf
   obtain ⟨b, off, sp⟩ := a
   simp only at hs
   subst hs
   refine ⟨(List.range len).map f, some ⟨b, off, none⟩, cap, by simp, by simpa using hlc, hcm, fun _ => ⟨b, off, rfl, cell_lt (hf 0 hpos).1, fun i hi => ?_⟩⟩
   have hi' : i < len := by simpa using hi
   have hg : ((List.range len).map f).getD i ([], 0) = f i := by simp [List.getD, hi']
   rw [hg]
   exact hf i hi'
theorem ss_val {W : World} {v : Value} (h : Sh.Val W (.slice 1 .str) v) : ∃ l : List Bs, SS W v l ∧ ∀ i, i < l.length → (l.getD i []).length ≤ maxLen := by
 rcases (show _ ∨ _ from h) with h | ⟨a, len, cap, hv, hlc, hcm, hel⟩
 ·obtain rfl : v = .slice none 0 0 := by simpa using h
  exact ⟨[], SS.nil W, fun i hi => by simp at hi⟩
 ·obtain rfl : v = .slice (some a) len cap := by simpa using hv
  rcases Nat.eq_zero_or_pos len with h0 | hpos
  ·subst h0
   exact ⟨[], ⟨some a, cap, rfl, hlc, hcm, fun h => absurd rfl h⟩, fun i hi => by simp at hi⟩
  ·obtain ⟨hs, hc⟩ := slice_cells (by decide) hpos hel
   have hf : ∀ i, ∃ x : Bs, i < len → W.cell? ⟨a.block, a.off + i, none⟩ = some (.string ⟨List.toArray x⟩) ∧ x.length ≤ maxLen := by
    intro i
    by_cases hi : i < len
    ·obtain ⟨cs, ⟨s, rfl, hsl⟩, _, hj⟩ := hc i hi
     have h0 := hj 0 (by decide)
     refine ⟨s.data.toList, fun _ => ⟨?_, by rw [Array.length_toList]; exact hsl⟩⟩
     rw [← str_list s]
     simpa using h0
    ·exact ⟨[], fun h => absurd h hi⟩
   obtain ⟨f, hf⟩ := Classical.axiomOfChoice hf
   obtain ⟨b, off, sp⟩ := a
   simp only at hs
   subst hs
   have hg : ∀ i, i < len → ((List.range len).map f).getD i [] = f i := fun i hi => by simp [List.getD, hi]
   refine ⟨(List.range len).map f, ⟨some ⟨b, off, none⟩, cap, by simp, by simpa using hlc, hcm, fun _ => ⟨b, off, rfl, cell_lt (hf 0 hpos).1, fun i hi => ?_⟩⟩, fun i hi => ?_⟩
   ·have hi' : i < len := by simpa using hi
    rw [hg i hi']
    exact (hf i hi').1
   ·have hi' : i < len := by simpa using hi
    rw [hg i hi']
    exact (hf i hi').2
end Go.Proofs.YthgjdaomcpinaaaGreatDoor
