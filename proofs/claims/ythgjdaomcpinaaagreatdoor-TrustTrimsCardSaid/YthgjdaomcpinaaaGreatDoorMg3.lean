/- HeadP, Kit, Bytes. -/
import Derived.WalkKit
import Derived.ProofKit
import Derived.Outline
import Derived.WalkSpells
import Derived.WalkLawsBesides
import Derived.Deep.QuietTactic
import Derived.BigQuiet
import Derived.RowKit3
import Derived.Lib.Hide
import Derived.Lib.MinMax
import Derived.Lib.SmallJoins
import Derived.Deep.DeepCutAuto
import Derived.Deep.LoopGhost
import Derived.Deep.RegionHeld3
import Derived.Deep.RegionWith
import Derived.StillTailTactics
import Derived.Test.YthgjdaomcpinaaaGreatDoorRows
import Derived.Deep.AppendLies
import Derived.Deep.RegionLaw
import Derived.Laws.BytesArg
import Derived.Test.YthgjdaomcpinaaaGreatDoorMg2
set_option linter.unnecessarySimpa false

/- Layers 18, 19, plain: links that skip; headers, their bytes, and the header of any bytes. -/
set_option linter.unusedSimpArgs false
set_option linter.unusedVariables false
namespace Go.Proofs.YthgjdaomcpinaaaGreatDoor
namespace Pl

/-! ### layer 18 -/
def linksTo (h : Nat) : Nat → List Int
  | 0 => []
  | k + 1 => if h % 2 ^ (k + 1) = 0 then linksTo h k ++ [(h : Int) - (2 ^ (k + 1) : Nat)] else linksTo h k
def linksF (h : Int) : List Int := if h < 1 ∨ 1048576 < h then [] else linksTo h.toNat 20
theorem linksTo_yes {h k : Nat} (hd : h % 2 ^ (k + 1) = 0) : linksTo h (k + 1) = linksTo h k ++ [(h : Int) - (2 ^ (k + 1) : Nat)] := if_pos hd
theorem linksTo_no {h k : Nat} (hd : h % 2 ^ (k + 1) ≠ 0) : linksTo h (k + 1) = linksTo h k := if_neg hd
theorem links_stop {h k : Nat} (hd : h % 2 ^ (k + 1) ≠ 0) : ∀ m, linksTo h (k + m) = linksTo h k
  | 0 => rfl
  | m + 1 => by
    rw [← links_stop hd m]
    show linksTo h (k + m + 1) = _
    refine linksTo_no (fun h0 => hd ?_)
    have h1 : 2 ^ (k + 1) ∣ 2 ^ (k + m + 1) := Nat.pow_dvd_pow 2 (by omega)
    exact Nat.mod_eq_zero_of_dvd (Nat.dvd_trans h1 (Nat.dvd_of_mod_eq_zero h0))
theorem links_len (h : Nat) : ∀ k, (linksTo h k).length ≤ k
  | 0 => Nat.le_refl _
  | k + 1 => by
    have := links_len h k
    unfold linksTo
    split
    · rw [List.length_append]; simp; omega
    · omega
theorem linksF_len (h : Int) : (linksF h).length ≤ 20 := by
  unfold linksF
  split
  · simp
  · exact links_len _ 20
theorem linksF_in {h : Int} (h1 : 1 ≤ h) (h2 : h ≤ 1048576) : linksF h = linksTo h.toNat 20 := if_neg (by omega)
theorem linksF_out {h : Int} (h1 : h < 1 ∨ 1048576 < h) : linksF h = [] := if_pos h1
theorem links_mem (h : Nat) : ∀ k x, x ∈ linksTo h k → x ≤ h ∧ (2 ^ k ≤ h → 0 ≤ x)
  | 0, x, hx => by cases hx
  | k + 1, x, hx => by
    unfold linksTo at hx
    have hp : 2 ^ k ≤ 2 ^ (k + 1) := Nat.pow_le_pow_right (by omega) (by omega)
    split at hx
    · rcases List.mem_append.1 hx with hx | hx
      · have := links_mem h k x hx
        exact ⟨this.1, fun hl => this.2 (by omega)⟩
      · rw [List.mem_singleton] at hx
        subst hx
        exact ⟨by omega, fun hl => by omega⟩
    · have := links_mem h k x hx
      exact ⟨this.1, fun hl => this.2 (by omega)⟩

/-! ### layer 2: flags -/
def flagB (b : Bool) : Bs := if b then [1] else [0]
def mFlag (s : Bs) (c : Int) : Bool × Bs × Int :=
  if c ≠ 0 then (false, s, c) else match s with
  | [] => (false, [], 20)
  | b :: r => if 1 < b.toNat then (false, b :: r, 3) else (b == 1, r, 0)
theorem mFlag_bad (s : Bs) (c : Int) (h : c ≠ 0) : mFlag s c = (false, s, c) := by unfold mFlag; rw [if_pos h]
theorem mFlag_eats (s : Bs) (c : Int) (h : (mFlag s c).2.2 = 0) : c = 0 ∧ s = flagB (mFlag s c).1 ++ (mFlag s c).2.1 := by
  unfold mFlag at h ⊢
  split at h
  · rename_i h1; exact absurd h h1
  · rename_i h1
    rw [if_neg h1]
    refine ⟨by simpa using h1, ?_⟩
    cases s with
    | nil => exact absurd h (by decide)
    | cons b r =>
      simp only at h ⊢
      split at h
      · exact absurd h (by simp)
      · rename_i h2
        rw [if_neg h2]
        have hb : b = 0 ∨ b = 1 := by
          rcases Nat.lt_or_ge b.toNat 1 with h3 | h3
          · left; exact UInt8.toNat_inj.1 (by simpa using h3)
          · right; exact UInt8.toNat_inj.1 (by simp; omega)
        rcases hb with rfl | rfl <;> rfl
theorem mFlag_flag (b : Bool) (r : Bs) : mFlag (flagB b ++ r) 0 = (b, r, 0) := by cases b <;> rfl
theorem mNumE (s : Bs) (c : Int) (h : (mNum s c).2.2 = 0) : c = 0 ∧ s = num (mNum s c).1 ++ (mNum s c).2.1 := by
  unfold mNum at h ⊢
  split at h
  · rename_i hc; exact absurd h hc
  · rename_i hc
    split at h
    · rename_i h2; exact absurd h h2
    · rename_i h2
      have h3 : (take s).2.2 = 0 := by simpa using h2
      rw [if_neg hc, if_neg h2]
      exact ⟨by simpa using hc, take_eats s h3⟩
theorem mEnd0 (s : Bs) (c : Int) (h : mEnd s c = 0) : s = [] ∧ c = 0 := by
  unfold mEnd at h
  split at h
  · exact absurd h (by decide)
  · rename_i hn
    refine ⟨?_, h⟩
    cases s with
    | nil => rfl
    | cons a r => exact absurd ⟨h, by simp⟩ hn

/-! ### layer 19 -/
structure Hd where
  height : Int
  epoch : Int
  view : Int
  last : Bool
  parent : Bs
  state : Bs
  receipts : Bs
  txs : Bs
  members : Bs
  next : Bs
  skips : List Bs
def hdZ : Hd := ⟨0, 0, 0, false, [], [], [], [], [], [], []⟩
def may32 (s : Bs) : Bool := decide (s = []) || decide (s.length = 32)
def firstH (h : Hd) : Bool :=
  if 0 < h.height then decide (h.parent.length = 32) else decide (h.parent = []) && decide (h.epoch = 0) && decide (h.view = 0) && h.last
def inH (n most : Int) : Bool := decide (0 ≤ n) && decide (n ≤ most)
def numsH (h : Hd) : Bool := inH h.height 1048576 && inH h.epoch 1048576 && inH h.view 1048576
def endH (h : Hd) : Bool := decide (h.txs.length = 32) && decide (h.members.length = 32) && decide (h.next.length = 32) && may32 h.state && may32 h.receipts
def sumsH (h : Hd) : Bool :=
  if 0 < h.height then decide (h.skips.length = (linksF h.height).length) && h.skips.all (fun s => decide (s.length = 32)) && endH h
  else decide (h.skips = []) && endH h
/-- As the program has it. -/
def fineH (h : Hd) : Bool := numsH h && firstH h && sumsH h && (h.last || decide (h.next = h.members))
/-- As the document has it. -/
def fineHR (h : Hd) : Bool :=
  numsH h && endH h && decide (h.skips.length = (linksF h.height).length) && h.skips.all (fun s => decide (s.length = 32)) &&
  (if h.height = 0 then decide (h.parent = []) && decide (h.epoch = 0) && decide (h.view = 0) && h.last else decide (h.parent.length = 32) && (h.last || decide (h.next = h.members)))
theorem fineHR_eq (h : Hd) : fineHR h = fineH h := by
  unfold fineHR fineH
  by_cases hn : numsH h = true
  · have h0 : 0 ≤ h.height := by
      unfold numsH inH at hn
      simp only [Bool.and_eq_true, decide_eq_true_eq] at hn
      exact hn.1.1.1
    by_cases hz : h.height = 0
    · have h1 : ¬ 0 < h.height := by omega
      have h2 : linksF h.height = [] := linksF_out (by omega)
      rw [if_pos hz]
      unfold firstH sumsH
      rw [if_neg h1, if_neg h1, h2]
      cases h.last
      · simp
      · cases hs : h.skips <;> simp <;> (cases decide (h.parent = []) <;> cases decide (h.epoch = 0) <;> cases decide (h.view = 0) <;> cases endH h <;> cases numsH h <;> rfl)
    · have h1 : 0 < h.height := by omega
      rw [if_neg hz]
      unfold firstH sumsH
      rw [if_pos h1, if_pos h1]
      cases numsH h <;> cases endH h <;> cases decide (h.skips.length = (linksF h.height).length) <;> cases h.skips.all (fun s => decide (s.length = 32)) <;> cases decide (h.parent.length = 32) <;> rfl
  · have hn' : numsH h = false := by simpa using hn
    simp [hn']
def writH (h : Hd) : Bs :=
  num h.height.toNat ++ num h.epoch.toNat ++ num h.view.toNat ++ flagB h.last ++ text h.parent ++ text h.state ++ text h.receipts ++ h.txs ++ h.members ++ h.next ++ h.skips.flatten
/-- So many sums. -/
def mSk (s : Bs) (c : Int) : Nat → List Bs × Bs × Int
  | 0 => ([], s, c)
  | n + 1 => ((mSk s c n).1 ++ [(mBytes (mSk s c n).2.1 (mSk s c n).2.2 32).1], (mBytes (mSk s c n).2.1 (mSk s c n).2.2 32).2.1, (mBytes (mSk s c n).2.1 (mSk s c n).2.2 32).2.2)
theorem mSk_len (s : Bs) (c : Int) : ∀ n, (mSk s c n).1.length = n
  | 0 => rfl
  | n + 1 => by unfold mSk; rw [List.length_append, mSk_len s c n]; rfl
theorem mSk_eats (s : Bs) (c : Int) : ∀ n, (mSk s c n).2.2 = 0 → c = 0 ∧ s = (mSk s c n).1.flatten ++ (mSk s c n).2.1
  | 0, h => ⟨h, rfl⟩
  | n + 1, h => by
    unfold mSk at h ⊢
    obtain ⟨h1, h2, _⟩ := mBytes_eats _ _ 32 h
    obtain ⟨h3, h4⟩ := mSk_eats s c n h1
    refine ⟨h3, ?_⟩
    rw [List.flatten_append]
    simp only [List.flatten_cons, List.flatten_nil, List.append_nil]
    rw [List.append_assoc]
    exact h4.trans (congrArg ((mSk s c n).1.flatten ++ ·) h2)
structure RdSt where
  h : Hd
  s : Bs
  c : Int
/-- The header that is read, what is left, and the code. -/
def rdH (s : Bs) : RdSt :=
  let a := mNum s 0
  let b := mNum a.2.1 a.2.2
  let v := mNum b.2.1 b.2.2
  let f := mFlag v.2.1 v.2.2
  let p := mText f.2.1 f.2.2 32
  let st := mText p.2.1 p.2.2 32
  let rc := mText st.2.1 st.2.2 32
  let tx := mBytes rc.2.1 rc.2.2 32
  let me := mBytes tx.2.1 tx.2.2 32
  let ne := mBytes me.2.1 me.2.2 32
  let sk := mSk ne.2.1 ne.2.2 (linksF a.1).length
  ⟨⟨a.1, b.1, v.1, f.1, p.1, st.1, rc.1, tx.1, me.1, ne.1, sk.1⟩, sk.2.1, sk.2.2⟩
theorem rdH_eats (s : Bs) (h : (rdH s).c = 0) : s = writH (rdH s).h ++ (rdH s).s := by
  unfold rdH at h ⊢
  simp only at h ⊢
  obtain ⟨h1, e1⟩ := mSk_eats _ _ _ h
  obtain ⟨h2, e2, _⟩ := mBytes_eats _ _ 32 h1
  obtain ⟨h3, e3, _⟩ := mBytes_eats _ _ 32 h2
  obtain ⟨h4, e4, _⟩ := mBytes_eats _ _ 32 h3
  obtain ⟨h5, e5, _⟩ := mText_eats _ _ _ h4
  obtain ⟨h6, e6, _⟩ := mText_eats _ _ _ h5
  obtain ⟨h7, e7, _⟩ := mText_eats _ _ _ h6
  obtain ⟨h8, e8⟩ := mFlag_eats _ _ h7
  obtain ⟨h9, e9⟩ := mNumE _ _ h8
  obtain ⟨h10, e10⟩ := mNumE _ _ h9
  obtain ⟨_, e11⟩ := mNumE _ _ h10
  unfold writH
  simp only [Int.toNat_natCast, List.append_assoc]
  rw [← e1]
  simp only [Int.natCast_zero, Int.cast_ofNat_Int] at *
  rw [← e2, ← e3, ← e4, ← e5, ← e6, ← e7, ← e8, ← e9, ← e10]
  exact e11
def decH (s : Bs) : Hd × Int := if mEnd (rdH s).s (rdH s).c = 0 ∧ fineH (rdH s).h = true then ((rdH s).h, 0) else (hdZ, 190)
def rdecH (s : Bs) : Hd × Int := if (rdH s).c = 0 ∧ fineH (rdH s).h = true ∧ writH (rdH s).h = s then ((rdH s).h, 0) else (hdZ, 190)
theorem rdecH_eq (s : Bs) : rdecH s = decH s := by
  unfold rdecH decH
  by_cases hc : (rdH s).c = 0
  · have he := rdH_eats s hc
    by_cases hs : (rdH s).s = []
    · rw [hs, List.append_nil] at he
      by_cases hf : fineH (rdH s).h = true
      · rw [if_pos ⟨hc, hf, he.symm⟩, if_pos ⟨by simp [mEnd, hc, hs], hf⟩]
      · rw [if_neg (fun h => hf h.2.1), if_neg (fun h => hf h.2)]
    · rw [if_neg, if_neg]
      · rintro ⟨h, _⟩
        exact hs (mEnd0 _ _ h).1
      · rintro ⟨_, _, h⟩
        apply hs
        have := congrArg List.length he
        rw [List.length_append, h] at this
        exact List.eq_nil_of_length_eq_zero (by omega)
  · rw [if_neg (fun h => hc h.1), if_neg (fun h => hc (mEnd0 _ _ h.1).2)]
/-- Bytes that tell a header are that one's. -/
theorem decH_two (s : Bs) : ((decH s).2 = 0 ∧ fineH (decH s).1 = true ∧ writH (decH s).1 = s) ∨ decH s = (hdZ, 190) := by
  rw [← rdecH_eq]
  unfold rdecH
  split
  · rename_i h
    exact .inl ⟨rfl, h.2.1, h.2.2⟩
  · exact .inr rfl
end Pl
end Go.Proofs.YthgjdaomcpinaaaGreatDoor

/- General lemmas, over any program: what a call of a law must show; blocks that are known whole; what stays below. -/
set_option linter.unusedSimpArgs false
set_option linter.unusedVariables false
namespace Go.Proofs.YthgjdaomcpinaaaGreatDoor
open Go.ChangeShapes Go.WideShapes Go.ChangeAt Go.RowKit

section
variable {H : Type} {enc : TypeId × Value → H} {P : Program}

theorem trodAll_below (hl : laidOutB P = true) {W W' : World} (hb : Below W.heap.size W W') :
    ∀ (ts : List TypeId) (vs : List Value) (ds : List (DataW H)) (ps : List MemPlace), (∀ t ∈ ts, P.readableRec t = true ∧ t < P.types.size) →
      DataW.TrodAll enc P W 0 (fun _ => true) true ts vs ds ps → (∀ x ∈ ps, x.block < W.heap.size) →
      DataW.TrodAll enc P W' 0 (fun b => decide (b < W.heap.size)) true ts vs ds ps
  | [], _, _, _, _, h, _ => by
    obtain ⟨rfl, rfl, rfl⟩ := trodAll_nil h
    exact trodAll_mk0
  | t :: ts, _, _, _, ht, h, hlt => by
    obtain ⟨v, vs, d, ds, p, q, rfl, rfl, rfl, h1, h2⟩ := trodAll_cons h
    exact ⟨p, q, Below.trod hl (ht t (by simp)).1 (ht t (by simp)).2 h1 hb (fun x hx => hlt x (by simp [hx])),
      trodAll_below hl hb ts vs ds q (fun u hu => ht u (by simp [hu])) h2 (fun x hx => hlt x (by simp [hx])), rfl⟩

/-- What a law's call must show. -/
theorem law_post {f : Func} {s : ChangeSpec} {apart fresh handsOn : Bool} {W W' : World} {args : Array Value} {ds gs : List (DataW H)} {before : List MemPlace} {tb : TypeId}
    (hl : laidOutB P = true) (hp : f.params.toList.all (fun t => P.readableRec t && decide (t < P.types.size)) = true)
    (hW : DataW.Whole enc P f.params.toList s.vars apart W args.toList ds gs before) (hv : s.vars = [])
    (hr : f.resultTypes = #[tb]) (htb : P.underlying tb = some .bool)
    (hs : s.fn H (ds ++ gs) = { results := [.lit (.bool true)], args := ds }) (hb : Below W.heap.size W W') :
    s.post enc P f apart fresh handsOn false W args (.bool true) W' := by
  have hlt := hW.lt
  have hW' := hW
  obtain ⟨p, q, hA, hV, rfl, hfz, hnd⟩ := hW
  rw [hv] at hV
  obtain ⟨rfl, rfl⟩ := trodVars_none hV
  refine ⟨ds, [], p ++ [], [], p, [], hW', ?_, ?_, ?_, hb.frame _, fun h => by cases h⟩
  · rw [hs, hr]; exact trodAll_mk1 (shut_bool htb _)
  · rw [hs]
    refine trodAll_below hl hb _ _ _ _ (fun t ht => ?_) hA (fun x hx => hlt x (by simp [hx]))
    have := List.all_eq_true.1 hp t ht
    simpa using this
  · rw [hv, hs]; exact rfl
end

theorem bcell {W w1 : World} (hb : Below W.heap.size W w1) : (∀ b o, b < W.heap.size → w1.cell? ⟨b, o, none⟩ = W.cell? ⟨b, o, none⟩) ∧ (∀ b o, b < W.heap.size → w1.frozen? ⟨b, o, none⟩ = W.frozen? ⟨b, o, none⟩) :=
  ⟨fun b o h => hb.cell (p := ⟨b, o, none⟩) h, fun b o h => hb.frozen (p := ⟨b, o, none⟩) h⟩
theorem ret_three {v0 v1 v2 u0 u1 u2 : Value} (h0 : v0 = u0) (h1 : v1 = u1) (h2 : v2 = u2) : Ending.returned (.tuple #[v0, v1, v2]) = .returned (.tuple #[u0, u1, u2]) := by rw [h0, h1, h2]
theorem keepC {W w1 : World} (hb : Below W.heap.size W w1) {b o : Nat} {v : Value} (h : W.cell? ⟨b, o, none⟩ = some v) : w1.cell? ⟨b, o, none⟩ = some v := by
  have hlt : b < W.heap.size := by
    rcases Nat.lt_or_ge b W.heap.size with h' | h'
    · exact h'
    · simp [World.cell?, Array.getElem?_eq_none h'] at h
  rw [hb.cell (p := ⟨b, o, none⟩) hlt]; exact h
theorem keepF {W w1 : World} (hb : Below W.heap.size W w1) {b o : Nat} (hlt : b < W.heap.size) (h : W.frozen? ⟨b, o, none⟩ = false) : w1.frozen? ⟨b, o, none⟩ = false := by
  rw [hb.frozen (p := ⟨b, o, none⟩) hlt]; exact h
theorem keepO {W w1 : World} (hb : Below W.heap.size W w1) {b : Nat} {cs : Array Value} (hlt : b < W.heap.size) (h : ∀ o, W.cell? ⟨b, o, none⟩ = cs[o]?) (o : Nat) : w1.cell? ⟨b, o, none⟩ = cs[o]? :=
  (hb.cell (p := ⟨b, o, none⟩) hlt).trans (h o)
theorem keepL {W w1 : World} (hb : Below W.heap.size W w1) {b : Nat} (hlt : b < W.heap.size) : b < w1.heap.size := Nat.lt_of_lt_of_le hlt hb.size
theorem allocO {W : World} {b : Nat} {cs : Array Value} {x : Obj} (hlt : b < W.heap.size) (h : ∀ o, W.cell? ⟨b, o, none⟩ = cs[o]?) (o : Nat) : (W.alloc x).cell? ⟨b, o, none⟩ = cs[o]? :=
  (World.cell?_alloc_past x b o hlt).trans (h o)
theorem allocL {W : World} {b : Nat} {x : Obj} (hlt : b < W.heap.size) : b < (W.alloc x).heap.size := by simp; omega
theorem wf64 {n : Int} (h : (Lit.int .i64 n).wf = true) : -9223372036854775808 ≤ n ∧ n ≤ 9223372036854775807 := by
  have h1 : IntKind.i64.min = -9223372036854775808 := rfl
  have h2 : IntKind.i64.max = 9223372036854775807 := rfl
  simpa [Lit.wf, h1, h2] using h
theorem ret_bool {a b : Bool} (h : a = true ↔ b = true) : Ending.returned (.bool a) = .returned (.bool b) := by rw [Bool.eq_iff_iff.2 h]
theorem ret_int {k : IntKind} {a b : Int} (h : a = b) : Ending.returned (.int k a) = .returned (.int k b) := by rw [h]

@[go_sem, simp] theorem str_app (l m : List UInt8) : (⟨List.toArray l⟩ : ByteArray) ++ ⟨List.toArray m⟩ = ⟨List.toArray (l ++ m)⟩ := by
  apply ByteArray.ext
  apply Array.ext'
  simp
@[go_sem, simp] theorem ext_list (l : List UInt8) (a b : Nat) : (⟨List.toArray l⟩ : ByteArray).extract a b = ⟨List.toArray ((l.drop a).take (b - a))⟩ := by
  apply ByteArray.ext
  apply Array.ext'
  simp
@[go_sem, simp] theorem str_get (l : List UInt8) (i : Nat) (h : i < (⟨List.toArray l⟩ : ByteArray).size) : (⟨List.toArray l⟩ : ByteArray)[i]'h = l[i]'(by simpa [ByteArray.size] using h) := rfl
theorem ofInt64_nat (a : Nat) (ha : a < 9223372036854775808) : (BitVec.ofInt 64 (a : Int)).toNat = a := by
  rw [BitVec.toNat_ofInt]
  omega
theorem wrap_i64_nat (a : Nat) (ha : a < 9223372036854775808) : IntKind.i64.wrap (a : Int) = a := by
  rw [IntKind.wrap_i64]; omega
theorem i64_or_nat (a b : Nat) (ha : a < 9223372036854775808) (hb : b < 9223372036854775808) : bits .or .i64 (a : Int) (b : Int) = ((a ||| b : Nat) : Int) := by
  have hx : a ||| b < 2 ^ 63 := Nat.or_lt_two_pow (by omega) (by omega)
  show IntKind.i64.wrap ((BitVec.ofInt 64 (a : Int) ||| BitVec.ofInt 64 (b : Int)).toNat : Int) = _
  rw [BitVec.toNat_or, ofInt64_nat a ha, ofInt64_nat b hb]
  exact wrap_i64_nat _ (by omega)
theorem i64_and_nat (a b : Nat) (ha : a < 9223372036854775808) (hb : b < 9223372036854775808) : bits .and .i64 (a : Int) (b : Int) = ((a &&& b : Nat) : Int) := by
  have hx : a &&& b < 2 ^ 63 := Nat.and_lt_two_pow _ (by omega)
  show IntKind.i64.wrap ((BitVec.ofInt 64 (a : Int) &&& BitVec.ofInt 64 (b : Int)).toNat : Int) = _
  rw [BitVec.toNat_and, ofInt64_nat a ha, ofInt64_nat b hb]
  exact wrap_i64_nat _ (by omega)
/-- 'n<<8 | b'. -/
theorem i64_or_byte (m x : Nat) (hm : m < 36028797018963968) (hx : x < 256) : bits .or .i64 ((m : Int) * 256) (x : Int) = ((m * 256 + x : Nat) : Int) := by
  have h := i64_or_nat (m * 256) x (by omega) (by omega)
  have h2 : m * 256 ||| x = m * 256 + x := by
    have := Nat.two_pow_add_eq_or_of_lt (i := 8) (b := x) (by omega) m
    rw [Nat.mul_comm m 256]
    exact this.symm
  rw [h2] at h
  rw [← h]
  simp
theorem u8_and15 (n : Nat) (h : n < 256) : bits .and .u8 (n : Int) 15 = ((n % 16 : Nat) : Int) := by
  have h1 := u8_and_nat n 15 h (by omega)
  rw [Nat.and_two_pow_sub_one_eq_mod n 4] at h1
  exact h1
theorem u8_or_hi (a b : Nat) (ha : a < 16) (hb : b < 16) : bits .or .u8 ((a : Int) * 16) (b : Int) = ((a * 16 + b : Nat) : Int) := by
  have h := u8_or_nat (a * 16) b (by omega) (by omega)
  have h2 : a * 16 ||| b = a * 16 + b := by
    have := Nat.two_pow_add_eq_or_of_lt (i := 4) (b := b) (by omega) a
    rw [Nat.mul_comm a 16]
    exact this.symm
  rw [h2] at h
  rw [← h]
  simp
theorem u8_div16 (c : UInt8) : c / 16 = UInt8.ofNat (c.toNat / 16) := by
  have := c.toNat_lt
  apply UInt8.toNat_inj.1
  simp
  omega
theorem u8_mod16 (c : UInt8) : c % 16 = UInt8.ofNat (c.toNat % 16) := by
  have := c.toNat_lt
  apply UInt8.toNat_inj.1
  simp
  omega
theorem ret_two {v0 v1 u0 u1 : Value} (h0 : v0 = u0) (h1 : v1 = u1) : Ending.returned (.tuple #[v0, v1]) = .returned (.tuple #[u0, u1]) := by rw [h0, h1]
theorem str_eq {l m : List UInt8} (h : l = m) : Value.string ⟨List.toArray l⟩ = .string ⟨List.toArray m⟩ := by rw [h]

theorem below_drewN {B : Nat} {a w : World} (h : Below B a w) (n : Nat) : Below B a (w.drewN n) := ⟨h.os, h.tape, h.output, h.size, h.block⟩
theorem Below.allocS {w w' : World} (h : Below w.heap.size w w') (o : Obj) : Below w.heap.size w (w'.alloc o) := h.alloc h.size o
/-- A block of cells that is known whole, and of which no cell is frozen. -/
structure Blk (w : World) (b : Nat) (cs : Array Value) : Prop where
  cell : ∀ o, w.cell? ⟨b, o, none⟩ = cs[o]?
  froz : ∀ o, w.frozen? ⟨b, o, none⟩ = false
  lt : b < w.heap.size
theorem Blk.keep {W w1 : World} (hb : Below W.heap.size W w1) {b : Nat} {cs : Array Value} (h : Blk W b cs) : Blk w1 b cs :=
  ⟨fun o => (hb.cell (p := ⟨b, o, none⟩) h.lt).trans (h.cell o), fun o => (hb.frozen (p := ⟨b, o, none⟩) h.lt).trans (h.froz o), Nat.lt_of_lt_of_le h.lt hb.size⟩
theorem Blk.new (w : World) (cs : Array Value) (t : TypeId) : Blk (w.alloc (.cells cs t)) w.heap.size cs :=
  ⟨fun o => by simp, fun o => by simp, by simp⟩
theorem Blk.new' {w : World} {cs : Array Value} {t : TypeId} {n : Nat} (h : n = w.heap.size) : Blk (w.alloc (.cells cs t)) n cs := by
  subst h; exact Blk.new w cs t
theorem Blk.alloc {w : World} {b : Nat} {cs : Array Value} (h : Blk w b cs) (o : Obj) : Blk (w.alloc o) b cs :=
  ⟨fun i => (World.cell?_alloc_past o b i h.lt).trans (h.cell i), fun i => (World.frozen?_alloc_past o b i h.lt).trans (h.froz i), by simp; have := h.lt; omega⟩
theorem Blk.drew {w : World} {b : Nat} {cs : Array Value} (h : Blk w b cs) : Blk w.drew b cs := ⟨h.cell, h.froz, h.lt⟩
theorem Blk.other {w : World} {b : Nat} {cs : Array Value} (h : Blk w b cs) {a : Addr} (ha : a.block ≠ b) (v : Value) : Blk (w.setCell a v) b cs :=
  ⟨fun i => (World.cell?_setCell_other w a ⟨b, i, none⟩ v (fun e => ha (by rw [e]))).trans (h.cell i), fun i => (World.frozen?_setCell _ _ _ _).trans (h.froz i), by simpa [World.setCell] using h.lt⟩
theorem Blk.set {w : World} {b : Nat} {cs : Array Value} (h : Blk w b cs) (i : Nat) (v : Value) : Blk (w.setCell ⟨b, i, none⟩ v) b (cs.setIfInBounds i v) := by
  refine ⟨fun o => ?_, fun o => (World.frozen?_setCell _ _ _ _).trans (h.froz o), by simpa [World.setCell] using h.lt⟩
  rw [Array.getElem?_setIfInBounds]
  by_cases e : i = o
  · subst e
    rw [if_pos rfl]
    split
    · rename_i hlt
      exact World.cell?_setCell_same w _ v (u := cs[i]) (by rw [h.cell i]; simp [hlt])
    · rename_i hge
      have h1 : w.cell? ⟨b, i, none⟩ = none := by rw [h.cell i]; simp; omega
      have h2 := h.lt
      unfold World.cell? World.setCell at *
      simp only [Array.getElem?_modify, if_true] at *
      cases hh : w.heap[b]? with
      | none => simp
      | some ob => cases ob <;> simp_all
  · rw [if_neg e, World.cell?_setCell_other w _ _ v (by intro hh; injection hh; contradiction)]
    exact h.cell o

/-- 'string(b)' of bytes that are known. -/
theorem conv_str {P : Program} {w : World} (src e dst : TypeId) (hs : P.underlying src = some (.slice e)) (he : P.underlying e = some (.int .u8)) (hd : P.underlying dst = some .string) (b off len cap : Nat) (l : List UInt8) (hlen : l.length = len)
    (hcell : ∀ i, i < len → w.cell? ⟨b, off + i, none⟩ = some (.int .u8 ((l.getD i 0).toNat : Int))) :
    (convert src dst (.slice (some ⟨b, off, none⟩) len cap)).run P w = .ok (.string ⟨List.toArray l⟩) w := by
  have h := run_convert_bytes_arg (P := P) w src e hs he b off len cap (l.map fun c => (c.toNat : Int)) (by simpa using hlen) (fun i hi => by
    rw [hcell i hi]
    simp [List.getD, List.getElem?_eq_getElem (show i < l.length by omega)]) dst hd
  rw [h]
  congr 2
  apply ByteArray.ext
  apply Array.ext'
  rw [strOfNums_data]
  simp only [List.map_map]
  refine (List.map_congr_left (g := id) fun c _ => ?_).trans (by simp)
  simp [Function.comp]

/-- 'string([]byte{a})', of two bytes, of four. -/
@[go_sem] theorem run_conv0 {P : Program} {W : World} (src dst g o n : Nat) (hs : P.underlying src = some (.slice (P.elem src))) (he : P.underlying (P.elem src) = some (.int .u8)) (hd : P.underlying dst = some .string) :
    (convert src dst (.slice (some ⟨g, o, none⟩) 0 n)).run P W = .ok (.string ⟨List.toArray []⟩) W := by
  have h' := run_convert_bytes_arg (P := P) W src _ hs he g o 0 n [] rfl (fun i hi => by omega) dst hd
  rw [h']; rfl
@[go_sem] theorem run_conv1 {P : Program} {W : World} (src dst g n : Nat) (hs : P.underlying src = some (.slice (P.elem src))) (he : P.underlying (P.elem src) = some (.int .u8)) (hd : P.underlying dst = some .string) :
    (convert src dst (.slice (some ⟨g, 0, none⟩) 1 n)).run P W = match W.cell? ⟨g, 0, none⟩ with
      | some (.int .u8 x) => .ok (.string ⟨List.toArray [UInt8.ofNat x.toNat]⟩) W
      | _ => (Conv.bytesToString (.slice (some ⟨g, 0, none⟩) 1 n)).run P W := by
  split
  · rename_i x h
    have h' := run_convert_bytes_arg (P := P) W src _ hs he g 0 1 n [x] rfl (fun i hi => by
      have : i = 0 := by omega
      subst this; simpa using h) dst hd
    rw [h']; rfl
  · exact run_convert_bytes_string W src dst _ _ 1 n hs he hd
@[go_sem] theorem run_conv2 {P : Program} {W : World} (src dst g n : Nat) (hs : P.underlying src = some (.slice (P.elem src))) (he : P.underlying (P.elem src) = some (.int .u8)) (hd : P.underlying dst = some .string) :
    (convert src dst (.slice (some ⟨g, 0, none⟩) 2 n)).run P W = match W.cell? ⟨g, 0, none⟩, W.cell? ⟨g, 1, none⟩ with
      | some (.int .u8 x), some (.int .u8 y) => .ok (.string ⟨List.toArray [UInt8.ofNat x.toNat, UInt8.ofNat y.toNat]⟩) W
      | _, _ => (Conv.bytesToString (.slice (some ⟨g, 0, none⟩) 2 n)).run P W := by
  split
  · rename_i x y h h2
    have h' := run_convert_bytes_arg (P := P) W src _ hs he g 0 2 n [x, y] rfl (fun i hi => by
      match i, hi with
      | 0, _ => simpa using h
      | 1, _ => simpa using h2) dst hd
    rw [h']; rfl
  · exact run_convert_bytes_string W src dst _ _ 2 n hs he hd

/-- Of the blocks that were there only those of the list may have changed. -/
structure Mod (l : List Nat) (w w' : World) : Prop where
  os : w'.os = w.os
  tape : w'.tape = w.tape
  output : w'.output = w.output
  size : w.heap.size ≤ w'.heap.size
  block : ∀ k, k < w.heap.size → k ∉ l → w'.heap[k]? = w.heap[k]?
theorem Mod.refl (l : List Nat) (w : World) : Mod l w w := ⟨rfl, rfl, rfl, Nat.le_refl _, fun _ _ _ => rfl⟩
theorem Mod.trans {l : List Nat} {a b c : World} (h : Mod l a b) (k : Mod l b c) : Mod l a c :=
  ⟨k.os.trans h.os, k.tape.trans h.tape, k.output.trans h.output, Nat.le_trans h.size k.size, fun i hi hn => (k.block i (Nat.lt_of_lt_of_le hi h.size) hn).trans (h.block i hi hn)⟩
theorem Mod.drew {l : List Nat} {a w : World} (h : Mod l a w) : Mod l a w.drew := ⟨h.os, h.tape, h.output, h.size, h.block⟩
theorem Mod.drewN {l : List Nat} {a w : World} (h : Mod l a w) (n : Nat) : Mod l a (w.drewN n) := ⟨h.os, h.tape, h.output, h.size, h.block⟩
theorem Mod.of_below {l : List Nat} {w w' : World} (h : Below w.heap.size w w') : Mod l w w' := ⟨h.os, h.tape, h.output, h.size, fun k hk _ => h.block k hk⟩
theorem Mod.below {w w' : World} (h : Mod [] w w') : Below w.heap.size w w' := ⟨h.os, h.tape, h.output, h.size, fun k hk => h.block k hk (by simp)⟩
theorem Mod.sub {l m : List Nat} {w w' : World} (h : Mod l w w') (hs : ∀ x ∈ l, x ∈ m ∨ w.heap.size ≤ x) : Mod m w w' :=
  ⟨h.os, h.tape, h.output, h.size, fun k hk hn => h.block k hk (fun hm => (hs k hm).elim hn (by omega))⟩
theorem Mod.alloc {l : List Nat} {a w : World} (h : Mod l a w) (o : Obj) : Mod l a (w.alloc o) :=
  h.trans ⟨rfl, rfl, rfl, by simp, fun k hk _ => Below.heap_alloc _ _ _ hk⟩
theorem Mod.setCell {l : List Nat} {a w : World} (h : Mod l a w) {p : Addr} (hp : p.block ∈ l ∨ a.heap.size ≤ p.block) (u : Value) : Mod l a (w.setCell p u) := by
  refine ⟨h.os, h.tape, h.output, by simpa [World.setCell] using h.size, fun k hk hn => (Below.heap_setCell _ _ _ _ ?_).trans (h.block k hk hn)⟩
  intro e
  subst e
  rcases hp with hp | hp
  · exact hn hp
  · omega
/-- Behind a call that may change the blocks of m alone, all of which are new since a, or in l. -/
theorem Mod.call {l m : List Nat} {a w w' : World} (h : Mod l a w) (k : Mod m w w') (hs : ∀ x ∈ m, x ∈ l ∨ a.heap.size ≤ x) : Mod l a w' :=
  ⟨k.os.trans h.os, k.tape.trans h.tape, k.output.trans h.output, Nat.le_trans h.size k.size, fun i hi hn =>
    (k.block i (Nat.lt_of_lt_of_le hi h.size) (fun hm => (hs i hm).elim hn (by omega))).trans (h.block i hi hn)⟩
theorem Blk.of_block {w w' : World} {b : Nat} {cs : Array Value} (h : Blk w b cs) (hb : w'.heap[b]? = w.heap[b]?) (hs : w.heap.size ≤ w'.heap.size) : Blk w' b cs :=
  ⟨fun o => (World.cell?_of_block (w := w) hb).trans (h.cell o), fun o => (World.frozen?_of_block (w := w) hb).trans (h.froz o), Nat.lt_of_lt_of_le h.lt hs⟩
theorem Blk.mod {w w' : World} {b : Nat} {cs : Array Value} (h : Blk w b cs) {l : List Nat} (hm : Mod l w w') (hb : b ∉ l) : Blk w' b cs :=
  h.of_block (hm.block b h.lt hb) hm.size
theorem Blk.drewN {w : World} {b : Nat} {cs : Array Value} (h : Blk w b cs) (n : Nat) : Blk (w.drewN n) b cs := ⟨h.cell, h.froz, h.lt⟩
theorem Below.mod {B : Nat} {a w w' : World} {l : List Nat} (h : Below B a w) (hm : Mod l w w') (hB : B ≤ w.heap.size) (hl : ∀ x ∈ l, B ≤ x) : Below B a w' :=
  h.trans ⟨hm.os, hm.tape, hm.output, hm.size, fun k hk => hm.block k (by omega) (fun hx => by have := hl k hx; omega)⟩

end Go.Proofs.YthgjdaomcpinaaaGreatDoor

/- Slices of bytes that a call itself made: make, append, string(..). -/
set_option linter.unusedSimpArgs false
set_option linter.unusedVariables false
namespace Go.Proofs.YthgjdaomcpinaaaGreatDoor
open Go.RowKit

theorem infoU8 : (Tryz.prog.info? 5).map (fun i => (i.zero, i.size, i.bytes)) = some (some (.int .u8 0), 1, 1) := by kernel_rfl

def bv (l : List UInt8) : List Value := l.map fun c => Value.int .u8 (c.toNat : Int)
/-- v is nil, or a slice of a block from base on, with these bytes. -/
def BRow (w : World) (base : Nat) (v : Value) (l : List UInt8) : Prop := w.ownsRow base 5 1 v l.length (bv l)

theorem bv_len (l : List UInt8) : (bv l).length = l.length := by simp [bv]
theorem BRow.nil (w : World) (base : Nat) : BRow w base (.slice none 0 0) [] := ⟨rfl, .inl ⟨rfl, rfl⟩⟩
theorem BRow.cells {w : World} {base : Nat} {v : Value} {l : List UInt8} (h : BRow w base v l) :
    (v = .slice none 0 0 ∧ l = []) ∨ ∃ g cap, v = .slice (some ⟨g, 0, none⟩) l.length cap ∧ base ≤ g ∧ g < w.heap.size ∧ l.length ≤ cap ∧ cap ≤ maxLen ∧ (∀ i, i < l.length → w.cell? ⟨g, i, none⟩ = some (.int .u8 ((l.getD i 0).toNat : Int))) ∧ ∀ o, w.frozen? ⟨g, o, none⟩ = false := by
  rcases h.2 with ⟨h1, h2⟩ | ⟨g, cap, cur, hv, hb, hg, hn, hm, hc, ht⟩
  · exact .inl ⟨h1, List.length_eq_zero_iff.1 h2⟩
  · refine .inr ⟨g, cap, hv, hb, ?_, hn, hm, fun i hi => ?_, fun o => ?_⟩
    · rcases Nat.lt_or_ge g w.heap.size with hlt | hge
      · exact hlt
      · rw [Array.getElem?_eq_none hge] at hg; cases hg
    · have h1 : cur[i]? = (cur.toList.take (l.length * 1))[i]? := by
        rw [List.getElem?_take, if_pos (by omega)]; simp
      have h2 : w.cell? ⟨g, i, none⟩ = cur[i]? := by simp [World.cell?, hg]
      rw [h2, h1, ht]
      simp [bv, List.getD, List.getElem?_eq_getElem hi]
    · simp [World.frozen?, hg]

theorem grown_below {w w' : World} {base : Nat} {row : Option Nat} (hg : w.grownBy w' row) (hb : base ≤ w.heap.size) (hr : ∀ k, row = some k → base ≤ k) : Below base w w' :=
  (Below.refl base w).grown hg hb hr
theorem BRow.own {w : World} {base : Nat} {v : Value} {l : List UInt8} (h : BRow w base v l) : ∀ k, v.ownBlock = some k → base ≤ k := by
  intro k hk
  rcases h.cells with ⟨rfl, _⟩ | ⟨g, cap, rfl, hb, _⟩
  · cases hk
  · cases hk; exact hb

theorem BRow.make (w : World) (base c : Nat) (hc : c ≤ 281474976710656) (hbase : base ≤ w.heap.size) :
    ∃ w', (Instr.makeSlice 113 (.int .i64 0) (.int .i64 (c : Int))).run Tryz.prog w = .ok (.slice (some ⟨w.heap.size, 0, none⟩) 0 c) w' ∧
      BRow w' base (.slice (some ⟨w.heap.size, 0, none⟩) 0 c) [] ∧ Below base w w' := by
  obtain ⟨i0, hi, hz0, hz1, hz2⟩ := info_parts infoU8
  obtain ⟨w', h1, h2, h3⟩ := run_make_own (P := Tryz.prog) w base 113 5 i0 (.int .u8 0) 1 Tryz.underlying113 hi hz0 hz1 .i64 .i64 c (by rw [hz2]; omega) (by unfold maxLen; omega) hbase
  exact ⟨w', h1, h2, grown_below h3 hbase (fun k hk => by cases hk)⟩

theorem BRow.conv {w : World} {base : Nat} {v : Value} {l : List UInt8} (h : BRow w base v l) : (convert 113 9 v).run Tryz.prog w = .ok (.string ⟨List.toArray (l)⟩) w := by
  rcases h.cells with ⟨rfl, rfl⟩ | ⟨g, cap, rfl, hb, hlt, hn, hm, hc, hf⟩
  · exact run_convert_bytes_nil w 113 5 Tryz.underlying113 Tryz.underlying5 0 0 9 Tryz.underlying9
  · exact conv_str 113 5 9 Tryz.underlying113 Tryz.underlying5 Tryz.underlying9 g 0 l.length cap l rfl (fun i hi => by simpa using hc i hi)

theorem BRow.kept {w w' : World} {base : Nat} {v : Value} {l : List UInt8} (h : BRow w base v l) (hb : ∀ k, v.ownBlock = some k → w'.heap[k]? = w.heap[k]?) : BRow w' base v l := by
  refine ⟨h.1, h.2.imp id ?_⟩
  rintro ⟨g, cap, cur, hv, h1, h2, h3⟩
  subst hv
  exact ⟨g, cap, cur, rfl, h1, (hb g rfl).trans h2, h3⟩
theorem BRow.alloc {w : World} {base : Nat} {v : Value} {l : List UInt8} (h : BRow w base v l) (o : Obj) : BRow (w.alloc o) base v l := by
  refine h.kept (fun k hk => Below.heap_alloc _ _ _ ?_)
  rcases h.cells with ⟨rfl, rfl⟩ | ⟨g, cap, rfl, _, hlt, _⟩
  · cases hk
  · cases hk; exact hlt
theorem BRow.drew {w : World} {base : Nat} {v : Value} {l : List UInt8} (h : BRow w base v l) : BRow w.drew base v l := h

/-- The cells of a slice of bytes that is appended. -/
def BSrc (w : World) (g o : Nat) (l : List UInt8) : Prop := ∀ i, i < l.length → w.cell? ⟨g, o + i, none⟩ = some (.int .u8 ((l.getD i 0).toNat : Int))

theorem bsrc1 (w : World) (x : UInt8) (a : Int) (t : TypeId) (ha : a = (x.toNat : Int)) : BSrc (w.alloc (.cells #[.int .u8 a] t)) w.heap.size 0 [x] := by
  intro i hi
  have : i = 0 := by simp at hi; omega
  subst this; subst ha
  simp
theorem bsrc2 (w : World) (x y : UInt8) (a b : Int) (t : TypeId) (ha : a = (x.toNat : Int)) (hb : b = (y.toNat : Int)) : BSrc (w.alloc (.cells #[.int .u8 a, .int .u8 b] t)) w.heap.size 0 [x, y] := by
  intro i hi
  subst ha; subst hb
  match i, hi with
  | 0, _ => simp
  | 1, _ => simp
theorem BSrc.drew {w : World} {g o : Nat} {l : List UInt8} (h : BSrc w g o l) : BSrc w.drew g o l := h
theorem bsrc_news {w : World} {g o : Nat} {l : List UInt8} (h : BSrc w g o l) : ∀ j u, (bv l)[j]? = some u → w.cell? ((⟨g, o, none⟩ : Addr).add j) = some u := by
  intro j u hj
  have hjl : j < l.length := by
    rcases Nat.lt_or_ge j l.length with hlt | hge
    · exact hlt
    · rw [List.getElem?_eq_none (by rw [bv_len]; exact hge)] at hj; cases hj
  have hadd : (⟨g, o, none⟩ : Addr).add j = ⟨g, o + j, none⟩ := by unfold Addr.add; split <;> simp_all
  rw [hadd, h j hjl]
  simp [bv, List.getElem?_eq_getElem hjl] at hj
  simp [List.getD, List.getElem?_eq_getElem hjl, hj]

theorem bone (l : List UInt8) : ∀ u ∈ bv l, u.oneCell' = true := by
  intro u hu
  simp [bv] at hu
  obtain ⟨c, _, rfl⟩ := hu
  rfl

section
variable {ops : Array Oper} {o : Oper} {a : Act} {w : World} {Q : Exit → Act → World → Prop}

theorem wp_appB {K : Act → World → Prop} (s x : Operand)
    (ho : o.op = .call { callee := .builtin .append, args := #[s, x], argTypes := #[113, 113] })
    (base : Nat) (v : Value) (l : List UInt8) (hs : a.eval s = v) (hown : BRow w base v l)
    (g off m c : Nat) (news : List UInt8) (hx : a.eval x = .slice (some ⟨g, off, none⟩) m c) (hm : news.length = m) (hsrc : BSrc w g off news)
    (hlen : l.length + m ≤ 140737488355328) (hbase : base ≤ w.heap.size)
    (h : ∀ v' w', BRow w' base v' (l ++ news) → Below base w w' → K (a.put o.dst v') w') : o.wp Tryz.prog a w K Q := by
  obtain ⟨i0, hi, hz0, hz1, hz2⟩ := info_parts infoU8
  refine wp_append_own w s x 113 ho base 5 i0 (.int .u8 0) 1 1 Tryz.underlying113 hi hz0 hz1 hz2 rfl (by decide) v l.length (bv l) hs hown ⟨g, off, none⟩ m c (bv news) hx (by rw [bv_len, hm]; omega) (bsrc_news hsrc) (bone news)
    (by unfold maxLen; omega) (by omega) hbase (fun v' w' h2 h3 _ => h v' w' ?_ (grown_below h3 hbase hown.own))
  unfold BRow
  rw [List.length_append, hm, show bv (l ++ news) = bv l ++ bv news from by simp [bv]]
  exact h2

theorem wpList_appB {rest : List Oper} (hgd : o.guard = none) (s x : Operand)
    (ho : o.op = .call { callee := .builtin .append, args := #[s, x], argTypes := #[113, 113] })
    (base : Nat) (v : Value) (l : List UInt8) (hs : a.eval s = v) (hown : BRow w base v l)
    (g off m c : Nat) (news : List UInt8) (hx : a.eval x = .slice (some ⟨g, off, none⟩) m c) (hm : news.length = m) (hsrc : BSrc w g off news)
    (hlen : l.length + m ≤ 140737488355328) (hbase : base ≤ w.heap.size)
    (h : ∀ v' w', BRow w' base v' (l ++ news) → Below base w w' → wpList Tryz.prog ops Q rest (a.put o.dst v') w') : wpList Tryz.prog ops Q (o :: rest) a w :=
  wpList_plain hgd fun _ hK => wp_appB s x ho base v l hs hown g off m c news hx hm hsrc hlen hbase fun v' w' h2 h3 => hK _ _ (h v' w' h2 h3)

theorem step_appB {K : Act → World → Prop} {E : Prop} (hgd : o.guard = none) (s x : Operand)
    (ho : o.op = .call { callee := .builtin .append, args := #[s, x], argTypes := #[113, 113] })
    (base : Nat) (v : Value) (l : List UInt8) (hs : a.eval s = v) (hown : BRow w base v l)
    (g off m c : Nat) (news : List UInt8) (hx : a.eval x = .slice (some ⟨g, off, none⟩) m c) (hm : news.length = m) (hsrc : BSrc w g off news)
    (hlen : l.length + m ≤ 140737488355328) (hbase : base ≤ w.heap.size)
    (h : ∀ v' w', BRow w' base v' (l ++ news) → Below base w w' → K (a.put o.dst v') w') :
    if Region.wanted o (yielded ops a.tmps) = true then Oper.wp Tryz.prog o a w K Q else E := by
  have hw : Region.wanted o (yielded ops a.tmps) = true := by simp [Region.wanted, hgd]
  rw [if_pos hw]
  exact wp_appB s x ho base v l hs hown g off m c news hx hm hsrc hlen hbase h
end
end Go.Proofs.YthgjdaomcpinaaaGreatDoor
