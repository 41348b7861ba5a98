/- Kit, Safety, Shelf. -/
import Derived.WalkKit
import Derived.ProofKit
import Derived.Outline
import Derived.WalkSpells
import Derived.WalkLawsBesides
import Derived.Deep.QuietTactic
import Derived.BigQuiet
import Derived.RowKit3
import Derived.Lib.Hide
import Derived.Lib.MinMax
import Derived.Lib.SmallJoins
import Derived.Deep.DeepCutAuto
import Derived.Deep.LoopGhost
import Derived.Deep.RegionHeld3
import Derived.Deep.RegionWith
import Derived.StillTailTactics
import Derived.Test.YtbnjhfkmdejeaaaRows
import Derived.Test.YtbnjhfkmdejeaaaProg
import Derived.Shelf.Slices.In.SortNone
import Derived.Shelf.Slices.In.CompactS
set_option linter.unnecessarySimpa false

/- General lemmas, over any program: what a call of a law must show; blocks that are known whole; what stays below. -/
set_option linter.unusedSimpArgs false
set_option linter.unusedVariables false
namespace Go.Proofs.Ytbnjhfkmdejeaaa
open Go.ChangeShapes Go.WideShapes Go.ChangeAt Go.RowKit

section
variable {H : Type} {enc : TypeId × Value → H} {P : Program}

theorem trodAll_below (hl : laidOutB P = true) {W W' : World} (hb : Below W.heap.size W W') :
    ∀ (ts : List TypeId) (vs : List Value) (ds : List (DataW H)) (ps : List MemPlace), (∀ t ∈ ts, P.readableRec t = true ∧ t < P.types.size) →
      DataW.TrodAll enc P W 0 (fun _ => true) true ts vs ds ps → (∀ x ∈ ps, x.block < W.heap.size) →
      DataW.TrodAll enc P W' 0 (fun b => decide (b < W.heap.size)) true ts vs ds ps
  | [], _, _, _, _, h, _ => by
    obtain ⟨rfl, rfl, rfl⟩ := trodAll_nil h
    exact trodAll_mk0
  | t :: ts, _, _, _, ht, h, hlt => by
    obtain ⟨v, vs, d, ds, p, q, rfl, rfl, rfl, h1, h2⟩ := trodAll_cons h
    exact ⟨p, q, Below.trod hl (ht t (by simp)).1 (ht t (by simp)).2 h1 hb (fun x hx => hlt x (by simp [hx])),
      trodAll_below hl hb ts vs ds q (fun u hu => ht u (by simp [hu])) h2 (fun x hx => hlt x (by simp [hx])), rfl⟩

/-- What a law's call must show. -/
theorem law_post {f : Func} {s : ChangeSpec} {apart fresh handsOn : Bool} {W W' : World} {args : Array Value} {ds gs : List (DataW H)} {before : List MemPlace} {tb : TypeId}
    (hl : laidOutB P = true) (hp : f.params.toList.all (fun t => P.readableRec t && decide (t < P.types.size)) = true)
    (hW : DataW.Whole enc P f.params.toList s.vars apart W args.toList ds gs before) (hv : s.vars = [])
    (hr : f.resultTypes = #[tb]) (htb : P.underlying tb = some .bool)
    (hs : s.fn H (ds ++ gs) = { results := [.lit (.bool true)], args := ds }) (hb : Below W.heap.size W W') :
    s.post enc P f apart fresh handsOn false W args (.bool true) W' := by
  have hlt := hW.lt
  have hW' := hW
  obtain ⟨p, q, hA, hV, rfl, hfz, hnd⟩ := hW
  rw [hv] at hV
  obtain ⟨rfl, rfl⟩ := trodVars_none hV
  refine ⟨ds, [], p ++ [], [], p, [], hW', ?_, ?_, ?_, hb.frame _, fun h => by cases h⟩
  · rw [hs, hr]; exact trodAll_mk1 (shut_bool htb _)
  · rw [hs]
    refine trodAll_below hl hb _ _ _ _ (fun t ht => ?_) hA (fun x hx => hlt x (by simp [hx]))
    have := List.all_eq_true.1 hp t ht
    simpa using this
  · rw [hv, hs]; exact rfl
end

theorem bcell {W w1 : World} (hb : Below W.heap.size W w1) : (∀ b o, b < W.heap.size → w1.cell? ⟨b, o, none⟩ = W.cell? ⟨b, o, none⟩) ∧ (∀ b o, b < W.heap.size → w1.frozen? ⟨b, o, none⟩ = W.frozen? ⟨b, o, none⟩) :=
  ⟨fun b o h => hb.cell (p := ⟨b, o, none⟩) h, fun b o h => hb.frozen (p := ⟨b, o, none⟩) h⟩
theorem ret_three {v0 v1 v2 u0 u1 u2 : Value} (h0 : v0 = u0) (h1 : v1 = u1) (h2 : v2 = u2) : Ending.returned (.tuple #[v0, v1, v2]) = .returned (.tuple #[u0, u1, u2]) := by rw [h0, h1, h2]
theorem keepC {W w1 : World} (hb : Below W.heap.size W w1) {b o : Nat} {v : Value} (h : W.cell? ⟨b, o, none⟩ = some v) : w1.cell? ⟨b, o, none⟩ = some v := by
  have hlt : b < W.heap.size := by
    rcases Nat.lt_or_ge b W.heap.size with h' | h'
    · exact h'
    · simp [World.cell?, Array.getElem?_eq_none h'] at h
  rw [hb.cell (p := ⟨b, o, none⟩) hlt]; exact h
theorem keepF {W w1 : World} (hb : Below W.heap.size W w1) {b o : Nat} (hlt : b < W.heap.size) (h : W.frozen? ⟨b, o, none⟩ = false) : w1.frozen? ⟨b, o, none⟩ = false := by
  rw [hb.frozen (p := ⟨b, o, none⟩) hlt]; exact h
theorem keepO {W w1 : World} (hb : Below W.heap.size W w1) {b : Nat} {cs : Array Value} (hlt : b < W.heap.size) (h : ∀ o, W.cell? ⟨b, o, none⟩ = cs[o]?) (o : Nat) : w1.cell? ⟨b, o, none⟩ = cs[o]? :=
  (hb.cell (p := ⟨b, o, none⟩) hlt).trans (h o)
theorem keepL {W w1 : World} (hb : Below W.heap.size W w1) {b : Nat} (hlt : b < W.heap.size) : b < w1.heap.size := Nat.lt_of_lt_of_le hlt hb.size
theorem allocO {W : World} {b : Nat} {cs : Array Value} {x : Obj} (hlt : b < W.heap.size) (h : ∀ o, W.cell? ⟨b, o, none⟩ = cs[o]?) (o : Nat) : (W.alloc x).cell? ⟨b, o, none⟩ = cs[o]? :=
  (World.cell?_alloc_past x b o hlt).trans (h o)
theorem allocL {W : World} {b : Nat} {x : Obj} (hlt : b < W.heap.size) : b < (W.alloc x).heap.size := by simp; omega
theorem wf64 {n : Int} (h : (Lit.int .i64 n).wf = true) : -9223372036854775808 ≤ n ∧ n ≤ 9223372036854775807 := by
  have h1 : IntKind.i64.min = -9223372036854775808 := rfl
  have h2 : IntKind.i64.max = 9223372036854775807 := rfl
  simpa [Lit.wf, h1, h2] using h
theorem ret_bool {a b : Bool} (h : a = true ↔ b = true) : Ending.returned (.bool a) = .returned (.bool b) := by rw [Bool.eq_iff_iff.2 h]
theorem ret_int {k : IntKind} {a b : Int} (h : a = b) : Ending.returned (.int k a) = .returned (.int k b) := by rw [h]

@[go_sem, simp] theorem str_app (l m : List UInt8) : (⟨List.toArray l⟩ : ByteArray) ++ ⟨List.toArray m⟩ = ⟨List.toArray (l ++ m)⟩ := by
  apply ByteArray.ext
  apply Array.ext'
  simp
@[go_sem, simp] theorem ext_list (l : List UInt8) (a b : Nat) : (⟨List.toArray l⟩ : ByteArray).extract a b = ⟨List.toArray ((l.drop a).take (b - a))⟩ := by
  apply ByteArray.ext
  apply Array.ext'
  simp
@[go_sem, simp] theorem str_get (l : List UInt8) (i : Nat) (h : i < (⟨List.toArray l⟩ : ByteArray).size) : (⟨List.toArray l⟩ : ByteArray)[i]'h = l[i]'(by simpa [ByteArray.size] using h) := rfl
theorem ofInt64_nat (a : Nat) (ha : a < 9223372036854775808) : (BitVec.ofInt 64 (a : Int)).toNat = a := by
  rw [BitVec.toNat_ofInt]
  omega
theorem wrap_i64_nat (a : Nat) (ha : a < 9223372036854775808) : IntKind.i64.wrap (a : Int) = a := by
  rw [IntKind.wrap_i64]; omega
theorem i64_or_nat (a b : Nat) (ha : a < 9223372036854775808) (hb : b < 9223372036854775808) : bits .or .i64 (a : Int) (b : Int) = ((a ||| b : Nat) : Int) := by
  have hx : a ||| b < 2 ^ 63 := Nat.or_lt_two_pow (by omega) (by omega)
  show IntKind.i64.wrap ((BitVec.ofInt 64 (a : Int) ||| BitVec.ofInt 64 (b : Int)).toNat : Int) = _
  rw [BitVec.toNat_or, ofInt64_nat a ha, ofInt64_nat b hb]
  exact wrap_i64_nat _ (by omega)
theorem i64_and_nat (a b : Nat) (ha : a < 9223372036854775808) (hb : b < 9223372036854775808) : bits .and .i64 (a : Int) (b : Int) = ((a &&& b : Nat) : Int) := by
  have hx : a &&& b < 2 ^ 63 := Nat.and_lt_two_pow _ (by omega)
  show IntKind.i64.wrap ((BitVec.ofInt 64 (a : Int) &&& BitVec.ofInt 64 (b : Int)).toNat : Int) = _
  rw [BitVec.toNat_and, ofInt64_nat a ha, ofInt64_nat b hb]
  exact wrap_i64_nat _ (by omega)
/-- 'n<<8 | b'. -/
theorem i64_or_byte (m x : Nat) (hm : m < 36028797018963968) (hx : x < 256) : bits .or .i64 ((m : Int) * 256) (x : Int) = ((m * 256 + x : Nat) : Int) := by
  have h := i64_or_nat (m * 256) x (by omega) (by omega)
  have h2 : m * 256 ||| x = m * 256 + x := by
    have := Nat.two_pow_add_eq_or_of_lt (i := 8) (b := x) (by omega) m
    rw [Nat.mul_comm m 256]
    exact this.symm
  rw [h2] at h
  rw [← h]
  simp
theorem u8_and15 (n : Nat) (h : n < 256) : bits .and .u8 (n : Int) 15 = ((n % 16 : Nat) : Int) := by
  have h1 := u8_and_nat n 15 h (by omega)
  rw [Nat.and_two_pow_sub_one_eq_mod n 4] at h1
  exact h1
theorem u8_or_hi (a b : Nat) (ha : a < 16) (hb : b < 16) : bits .or .u8 ((a : Int) * 16) (b : Int) = ((a * 16 + b : Nat) : Int) := by
  have h := u8_or_nat (a * 16) b (by omega) (by omega)
  have h2 : a * 16 ||| b = a * 16 + b := by
    have := Nat.two_pow_add_eq_or_of_lt (i := 4) (b := b) (by omega) a
    rw [Nat.mul_comm a 16]
    exact this.symm
  rw [h2] at h
  rw [← h]
  simp
theorem u8_div16 (c : UInt8) : c / 16 = UInt8.ofNat (c.toNat / 16) := by
  have := c.toNat_lt
  apply UInt8.toNat_inj.1
  simp
  omega
theorem u8_mod16 (c : UInt8) : c % 16 = UInt8.ofNat (c.toNat % 16) := by
  have := c.toNat_lt
  apply UInt8.toNat_inj.1
  simp
  omega
theorem ret_two {v0 v1 u0 u1 : Value} (h0 : v0 = u0) (h1 : v1 = u1) : Ending.returned (.tuple #[v0, v1]) = .returned (.tuple #[u0, u1]) := by rw [h0, h1]
theorem str_eq {l m : List UInt8} (h : l = m) : Value.string ⟨List.toArray l⟩ = .string ⟨List.toArray m⟩ := by rw [h]

theorem below_drewN {B : Nat} {a w : World} (h : Below B a w) (n : Nat) : Below B a (w.drewN n) := ⟨h.os, h.tape, h.output, h.size, h.block⟩
theorem Below.allocS {w w' : World} (h : Below w.heap.size w w') (o : Obj) : Below w.heap.size w (w'.alloc o) := h.alloc h.size o
/-- A block of cells that is known whole, and of which no cell is frozen. -/
structure Blk (w : World) (b : Nat) (cs : Array Value) : Prop where
  cell : ∀ o, w.cell? ⟨b, o, none⟩ = cs[o]?
  froz : ∀ o, w.frozen? ⟨b, o, none⟩ = false
  lt : b < w.heap.size
theorem Blk.keep {W w1 : World} (hb : Below W.heap.size W w1) {b : Nat} {cs : Array Value} (h : Blk W b cs) : Blk w1 b cs :=
  ⟨fun o => (hb.cell (p := ⟨b, o, none⟩) h.lt).trans (h.cell o), fun o => (hb.frozen (p := ⟨b, o, none⟩) h.lt).trans (h.froz o), Nat.lt_of_lt_of_le h.lt hb.size⟩
theorem Blk.new (w : World) (cs : Array Value) (t : TypeId) : Blk (w.alloc (.cells cs t)) w.heap.size cs :=
  ⟨fun o => by simp, fun o => by simp, by simp⟩
theorem Blk.new' {w : World} {cs : Array Value} {t : TypeId} {n : Nat} (h : n = w.heap.size) : Blk (w.alloc (.cells cs t)) n cs := by
  subst h; exact Blk.new w cs t
theorem Blk.alloc {w : World} {b : Nat} {cs : Array Value} (h : Blk w b cs) (o : Obj) : Blk (w.alloc o) b cs :=
  ⟨fun i => (World.cell?_alloc_past o b i h.lt).trans (h.cell i), fun i => (World.frozen?_alloc_past o b i h.lt).trans (h.froz i), by simp; have := h.lt; omega⟩
theorem Blk.drew {w : World} {b : Nat} {cs : Array Value} (h : Blk w b cs) : Blk w.drew b cs := ⟨h.cell, h.froz, h.lt⟩
theorem Blk.other {w : World} {b : Nat} {cs : Array Value} (h : Blk w b cs) {a : Addr} (ha : a.block ≠ b) (v : Value) : Blk (w.setCell a v) b cs :=
  ⟨fun i => (World.cell?_setCell_other w a ⟨b, i, none⟩ v (fun e => ha (by rw [e]))).trans (h.cell i), fun i => (World.frozen?_setCell _ _ _ _).trans (h.froz i), by simpa [World.setCell] using h.lt⟩
theorem Blk.set {w : World} {b : Nat} {cs : Array Value} (h : Blk w b cs) (i : Nat) (v : Value) : Blk (w.setCell ⟨b, i, none⟩ v) b (cs.setIfInBounds i v) := by
  refine ⟨fun o => ?_, fun o => (World.frozen?_setCell _ _ _ _).trans (h.froz o), by simpa [World.setCell] using h.lt⟩
  rw [Array.getElem?_setIfInBounds]
  by_cases e : i = o
  · subst e
    rw [if_pos rfl]
    split
    · rename_i hlt
      exact World.cell?_setCell_same w _ v (u := cs[i]) (by rw [h.cell i]; simp [hlt])
    · rename_i hge
      have h1 : w.cell? ⟨b, i, none⟩ = none := by rw [h.cell i]; simp; omega
      have h2 := h.lt
      unfold World.cell? World.setCell at *
      simp only [Array.getElem?_modify, if_true] at *
      cases hh : w.heap[b]? with
      | none => simp
      | some ob => cases ob <;> simp_all
  · rw [if_neg e, World.cell?_setCell_other w _ _ v (by intro hh; injection hh; contradiction)]
    exact h.cell o

/-- 'string(b)' of bytes that are known. -/
theorem conv_str {P : Program} {w : World} (src e dst : TypeId) (hs : P.underlying src = some (.slice e)) (he : P.underlying e = some (.int .u8)) (hd : P.underlying dst = some .string) (b off len cap : Nat) (l : List UInt8) (hlen : l.length = len)
    (hcell : ∀ i, i < len → w.cell? ⟨b, off + i, none⟩ = some (.int .u8 ((l.getD i 0).toNat : Int))) :
    (convert src dst (.slice (some ⟨b, off, none⟩) len cap)).run P w = .ok (.string ⟨List.toArray l⟩) w := by
  have h := run_convert_bytes_arg (P := P) w src e hs he b off len cap (l.map fun c => (c.toNat : Int)) (by simpa using hlen) (fun i hi => by
    rw [hcell i hi]
    simp [List.getD, List.getElem?_eq_getElem (show i < l.length by omega)]) dst hd
  rw [h]
  congr 2
  apply ByteArray.ext
  apply Array.ext'
  rw [strOfNums_data]
  simp only [List.map_map]
  refine (List.map_congr_left (g := id) fun c _ => ?_).trans (by simp)
  simp [Function.comp]

/-- 'string([]byte{a})', of two bytes, of four. -/
@[go_sem] theorem run_conv0 {P : Program} {W : World} (src dst g o n : Nat) (hs : P.underlying src = some (.slice (P.elem src))) (he : P.underlying (P.elem src) = some (.int .u8)) (hd : P.underlying dst = some .string) :
    (convert src dst (.slice (some ⟨g, o, none⟩) 0 n)).run P W = .ok (.string ⟨List.toArray []⟩) W := by
  have h' := run_convert_bytes_arg (P := P) W src _ hs he g o 0 n [] rfl (fun i hi => by omega) dst hd
  rw [h']; rfl
@[go_sem] theorem run_conv1 {P : Program} {W : World} (src dst g n : Nat) (hs : P.underlying src = some (.slice (P.elem src))) (he : P.underlying (P.elem src) = some (.int .u8)) (hd : P.underlying dst = some .string) :
    (convert src dst (.slice (some ⟨g, 0, none⟩) 1 n)).run P W = match W.cell? ⟨g, 0, none⟩ with
      | some (.int .u8 x) => .ok (.string ⟨List.toArray [UInt8.ofNat x.toNat]⟩) W
      | _ => (Conv.bytesToString (.slice (some ⟨g, 0, none⟩) 1 n)).run P W := by
  split
  · rename_i x h
    have h' := run_convert_bytes_arg (P := P) W src _ hs he g 0 1 n [x] rfl (fun i hi => by
      have : i = 0 := by omega
      subst this; simpa using h) dst hd
    rw [h']; rfl
  · exact run_convert_bytes_string W src dst _ _ 1 n hs he hd
@[go_sem] theorem run_conv2 {P : Program} {W : World} (src dst g n : Nat) (hs : P.underlying src = some (.slice (P.elem src))) (he : P.underlying (P.elem src) = some (.int .u8)) (hd : P.underlying dst = some .string) :
    (convert src dst (.slice (some ⟨g, 0, none⟩) 2 n)).run P W = match W.cell? ⟨g, 0, none⟩, W.cell? ⟨g, 1, none⟩ with
      | some (.int .u8 x), some (.int .u8 y) => .ok (.string ⟨List.toArray [UInt8.ofNat x.toNat, UInt8.ofNat y.toNat]⟩) W
      | _, _ => (Conv.bytesToString (.slice (some ⟨g, 0, none⟩) 2 n)).run P W := by
  split
  · rename_i x y h h2
    have h' := run_convert_bytes_arg (P := P) W src _ hs he g 0 2 n [x, y] rfl (fun i hi => by
      match i, hi with
      | 0, _ => simpa using h
      | 1, _ => simpa using h2) dst hd
    rw [h']; rfl
  · exact run_convert_bytes_string W src dst _ _ 2 n hs he hd

/-- Of the blocks that were there only those of the list may have changed. -/
structure Mod (l : List Nat) (w w' : World) : Prop where
  os : w'.os = w.os
  tape : w'.tape = w.tape
  output : w'.output = w.output
  size : w.heap.size ≤ w'.heap.size
  block : ∀ k, k < w.heap.size → k ∉ l → w'.heap[k]? = w.heap[k]?
theorem Mod.refl (l : List Nat) (w : World) : Mod l w w := ⟨rfl, rfl, rfl, Nat.le_refl _, fun _ _ _ => rfl⟩
theorem Mod.trans {l : List Nat} {a b c : World} (h : Mod l a b) (k : Mod l b c) : Mod l a c :=
  ⟨k.os.trans h.os, k.tape.trans h.tape, k.output.trans h.output, Nat.le_trans h.size k.size, fun i hi hn => (k.block i (Nat.lt_of_lt_of_le hi h.size) hn).trans (h.block i hi hn)⟩
theorem Mod.drew {l : List Nat} {a w : World} (h : Mod l a w) : Mod l a w.drew := ⟨h.os, h.tape, h.output, h.size, h.block⟩
theorem Mod.drewN {l : List Nat} {a w : World} (h : Mod l a w) (n : Nat) : Mod l a (w.drewN n) := ⟨h.os, h.tape, h.output, h.size, h.block⟩
theorem Mod.of_below {l : List Nat} {w w' : World} (h : Below w.heap.size w w') : Mod l w w' := ⟨h.os, h.tape, h.output, h.size, fun k hk _ => h.block k hk⟩
theorem Mod.below {w w' : World} (h : Mod [] w w') : Below w.heap.size w w' := ⟨h.os, h.tape, h.output, h.size, fun k hk => h.block k hk (by simp)⟩
theorem Mod.sub {l m : List Nat} {w w' : World} (h : Mod l w w') (hs : ∀ x ∈ l, x ∈ m ∨ w.heap.size ≤ x) : Mod m w w' :=
  ⟨h.os, h.tape, h.output, h.size, fun k hk hn => h.block k hk (fun hm => (hs k hm).elim hn (by omega))⟩
theorem Mod.alloc {l : List Nat} {a w : World} (h : Mod l a w) (o : Obj) : Mod l a (w.alloc o) :=
  h.trans ⟨rfl, rfl, rfl, by simp, fun k hk _ => Below.heap_alloc _ _ _ hk⟩
theorem Mod.setCell {l : List Nat} {a w : World} (h : Mod l a w) {p : Addr} (hp : p.block ∈ l ∨ a.heap.size ≤ p.block) (u : Value) : Mod l a (w.setCell p u) := by
  refine ⟨h.os, h.tape, h.output, by simpa [World.setCell] using h.size, fun k hk hn => (Below.heap_setCell _ _ _ _ ?_).trans (h.block k hk hn)⟩
  intro e
  subst e
  rcases hp with hp | hp
  · exact hn hp
  · omega
/-- Behind a call that may change the blocks of m alone, all of which are new since a, or in l. -/
theorem Mod.call {l m : List Nat} {a w w' : World} (h : Mod l a w) (k : Mod m w w') (hs : ∀ x ∈ m, x ∈ l ∨ a.heap.size ≤ x) : Mod l a w' :=
  ⟨k.os.trans h.os, k.tape.trans h.tape, k.output.trans h.output, Nat.le_trans h.size k.size, fun i hi hn =>
    (k.block i (Nat.lt_of_lt_of_le hi h.size) (fun hm => (hs i hm).elim hn (by omega))).trans (h.block i hi hn)⟩
theorem Blk.of_block {w w' : World} {b : Nat} {cs : Array Value} (h : Blk w b cs) (hb : w'.heap[b]? = w.heap[b]?) (hs : w.heap.size ≤ w'.heap.size) : Blk w' b cs :=
  ⟨fun o => (World.cell?_of_block (w := w) hb).trans (h.cell o), fun o => (World.frozen?_of_block (w := w) hb).trans (h.froz o), Nat.lt_of_lt_of_le h.lt hs⟩
theorem Blk.mod {w w' : World} {b : Nat} {cs : Array Value} (h : Blk w b cs) {l : List Nat} (hm : Mod l w w') (hb : b ∉ l) : Blk w' b cs :=
  h.of_block (hm.block b h.lt hb) hm.size
theorem Blk.drewN {w : World} {b : Nat} {cs : Array Value} (h : Blk w b cs) (n : Nat) : Blk (w.drewN n) b cs := ⟨h.cell, h.froz, h.lt⟩
theorem Below.mod {B : Nat} {a w w' : World} {l : List Nat} (h : Below B a w) (hm : Mod l w w') (hB : B ≤ w.heap.size) (hl : ∀ x ∈ l, B ≤ x) : Below B a w' :=
  h.trans ⟨hm.os, hm.tape, hm.output, hm.size, fun k hk => hm.block k (by omega) (fun hx => by have := hl k hx; omega)⟩

end Go.Proofs.Ytbnjhfkmdejeaaa

/- Walks of the safety functions. -/
set_option linter.unusedSimpArgs false
set_option linter.unusedVariables false
namespace Go.Proofs.Ytbnjhfkmdejeaaa
open Go.RowKit

def mayF (v l view just : Int) : Int :=
  if view < 1 ∨ 1048576 < view ∨ just < 0 ∨ view ≤ just then 1
  else if view ≤ v then 230
  else if just < l then 231
  else 0

set_option maxHeartbeats 400000 in
theorem may_any (v l view just : Int) (w : World) :
    Calls Try.prog 15 #[.agg #[.int .i64 v, .int .i64 l], .int .i64 view, .int .i64 just] w fun e w' =>
      e = .returned (.int .i64 (mayF v l view just)) ∧ Below w.heap.size w w' := by
  unfold mayF
  go_enter Try.func15, Try.ntmps15
  go_wp2
  all_goals (go_ret; refine ⟨?_, by exact (Below.refl _ _).alloc (Nat.le_refl _) _⟩)
  all_goals simp [*]


def voteF (v l view just back : Int) : Int × Int × Int :=
  if mayF v l view just ≠ 0 then (0, 0, mayF v l view just)
  else if back < 0 ∨ (just ≤ back ∧ ¬ (just = 0 ∧ back = 0)) then (0, 0, 1)
  else (view, max l back, 0)

set_option maxHeartbeats 400000 in
theorem vote_any (v l view just back : Int) (w : World) :
    Calls Try.prog 14 #[.agg #[.int .i64 v, .int .i64 l], .int .i64 view, .int .i64 just, .int .i64 back] w fun e w' =>
      e = .returned (.tuple #[.agg #[.int .i64 (voteF v l view just back).1, .int .i64 (voteF v l view just back).2.1], .int .i64 (voteF v l view just back).2.2]) ∧ Below w.heap.size w w' := by
  generalize hr : voteF v l view just back = r
  unfold voteF at hr
  have hR := Lib.hid hr
  clear hr
  generalize hm : mayF v l view just = m at hR
  have hM := Lib.hid hm
  clear hm
  go_enter Try.func14, Try.ntmps14
  go_wp2_with fail
  refine (may_any _ _ _ _ _).mono ?_
  rintro e w1 ⟨rfl, hb⟩
  rw [hM.out]
  have c0 : w1.cell? ⟨w.heap.size, 0, none⟩ = some (.int .i64 v) := keepC hb (by simp)
  have c1 : w1.cell? ⟨w.heap.size, 1, none⟩ = some (.int .i64 l) := keepC hb (by simp)
  have c2 : w1.cell? ⟨w.heap.size + 1, 0, none⟩ = some (.int .i64 0) := keepC hb (by simp [go_sem])
  have c3 : w1.cell? ⟨w.heap.size + 1, 1, none⟩ = some (.int .i64 0) := keepC hb (by simp [go_sem])
  have f0 : ∀ o, w1.frozen? ⟨w.heap.size, o, none⟩ = false := fun o => keepF hb (by simp <;> omega) (by simp)
  have f1 : ∀ o, w1.frozen? ⟨w.heap.size + 1, o, none⟩ = false := fun o => keepF hb (by simp <;> omega) (by simp [go_sem])
  have hz0 : w.heap.size < w1.heap.size := by have := hb.size; simp at this; omega
  have hz1 : w.heap.size + 1 < w1.heap.size := by have := hb.size; simp at this; omega
  go_wp2_with fail
  all_goals (simp [bodyPost, results, Try.results14, go_sem, c0, c1, c2, c3, f0, f1, hz0, hz1])
  all_goals (refine ⟨?_, ?_⟩)
  all_goals (first | (rw [← hR.out]; simp [*]; done) | (rw [← hR.out]; simp_all; done) | (have hq := hR.out; clear hR; (repeat' split at hq) <;> (subst hq; simp_all <;> omega; done)) | (repeat (first | exact Below.refl _ _ | assumption | apply Below.drew | apply below_drewN | apply Below.allocS | (refine Below.setCell ?_ (by simp <;> omega) _) | (refine Below.alloc ?_ (by simp <;> omega) _) | (refine Below.trans ?_ (Below.mono (by assumption) (by simp <;> omega))))))



def threeB (a b c : Int) : Bool := decide (0 ≤ a ∧ b = a + 1 ∧ c = a + 2)

set_option maxHeartbeats 400000 in
theorem three_any (a b c : Int) (ha : -9223372036854775808 ≤ a ∧ a ≤ 9223372036854775807) (hb : -9223372036854775808 ≤ b ∧ b ≤ 9223372036854775807) (hc : -9223372036854775808 ≤ c ∧ c ≤ 9223372036854775807) (w : World) :
    Calls Try.prog 12 #[.int .i64 a, .int .i64 b, .int .i64 c] w fun e w' => e = .returned (.bool (threeB a b c)) ∧ w = w' := by
  obtain ⟨ha1, ha2⟩ := ha
  obtain ⟨hb1, hb2⟩ := hb
  obtain ⟨hc1, hc2⟩ := hc
  generalize hr : threeB a b c = r
  have hR := Lib.hid hr
  clear hr
  by_cases h0 : 0 ≤ a
  · by_cases h1 : a < b
    · by_cases h2 : b < c
      · go_enter Try.func12, Try.ntmps12
        go_wp2_with fail
        all_goals (go_ret; refine ⟨?_, rfl⟩; rw [← hR.out]; unfold threeB; refine ret_bool ?_; simp; omega)
      · go_enter Try.func12, Try.ntmps12
        go_wp2_with fail
        all_goals (go_ret; refine ⟨?_, rfl⟩; rw [← hR.out]; unfold threeB; refine ret_bool ?_; simp; omega)
    · go_enter Try.func12, Try.ntmps12
      go_wp2_with fail
      all_goals (go_ret; refine ⟨?_, rfl⟩; rw [← hR.out]; unfold threeB; refine ret_bool ?_; simp; omega)
  · go_enter Try.func12, Try.ntmps12
    go_wp2_with fail
    all_goals (go_ret; refine ⟨?_, rfl⟩; rw [← hR.out]; unfold threeB; refine ret_bool ?_; simp; omega)


end Go.Proofs.Ytbnjhfkmdejeaaa

/- The laws of the library that the sorts lean on, at this program. -/
set_option linter.unusedVariables false
namespace Go.Proofs.Ytbnjhfkmdejeaaa
open Go.Shelf

def laysSort_ren : Go.Shelf.Ren := ⟨fun | 190 => 17 | 125 => 21 | 258 => 20 | 128 => 31 | 129 => 32 | 302 => 22 | 303 => 23 | 304 => 24 | 305 => 25 | 306 => 26 | 307 => 27 | 308 => 28 | 309 => 29 | 310 => 30 | 333 => 33 | 329 => 34 | 330 => 35 | 334 => 36 | 335 => 37 | 336 => 38 | 344 => 39 | n => n, fun | 31 => 23 | 9 => 9 | 3 => 3 | 46 => 58 | 0 => 0 | 51 => 69 | 53 => 71 | 4 => 4 | 183 => 61 | 182 => 60 | 131 => 66 | 5 => 5 | 218 => 72 | 222 => 76 | 228 => 79 | 229 => 80 | n => n, fun | n => n⟩
theorem laysSort : Go.Proofs.Lays.n190 Try.prog laysSort_ren := {
  mixed := by kernel_rfl
  f125 := Try.func21.trans (congrArg some (by kernel_rfl))
  f128 := Try.func31.trans (congrArg some (by kernel_rfl))
  f129 := Try.func32.trans (congrArg some (by kernel_rfl))
  f190 := Try.func17.trans (congrArg some (by kernel_rfl))
  f258 := Try.func20.trans (congrArg some (by kernel_rfl))
  f302 := Try.func22.trans (congrArg some (by kernel_rfl))
  f303 := Try.func23.trans (congrArg some (by kernel_rfl))
  f304 := Try.func24.trans (congrArg some (by kernel_rfl))
  f305 := Try.func25.trans (congrArg some (by kernel_rfl))
  f306 := Try.func26.trans (congrArg some (by kernel_rfl))
  f307 := Try.func27.trans (congrArg some (by kernel_rfl))
  f308 := Try.func28.trans (congrArg some (by kernel_rfl))
  f309 := Try.func29.trans (congrArg some (by kernel_rfl))
  f310 := Try.func30.trans (congrArg some (by kernel_rfl))
  f329 := Try.func34.trans (congrArg some (by kernel_rfl))
  f330 := Try.func35.trans (congrArg some (by kernel_rfl))
  f333 := Try.func33.trans (congrArg some (by kernel_rfl))
  f334 := Try.func36.trans (congrArg some (by kernel_rfl))
  f335 := Try.func37.trans (congrArg some (by kernel_rfl))
  f336 := Try.func38.trans (congrArg some (by kernel_rfl))
  f344 := Try.func39.trans (congrArg some (by kernel_rfl))
  t0 := Try.underlying0
  a0 := Try.isAgg0
  z0 := Try.sizeOf0
  v0 := Try.zeroValue0
  t3 := Try.underlying3
  a3 := Try.isAgg3
  z3 := Try.sizeOf3
  v3 := Try.zeroValue3
  t4 := Try.underlying4
  a4 := Try.isAgg4
  z4 := Try.sizeOf4
  v4 := Try.zeroValue4
  t5 := Try.underlying5
  a5 := Try.isAgg5
  z5 := Try.sizeOf5
  v5 := Try.zeroValue5
  t9 := Try.underlying9
  a9 := Try.isAgg9
  z9 := Try.sizeOf9
  v9 := Try.zeroValue9
  t31 := Try.underlying23
  a31 := Try.isAgg23
  z31 := Try.sizeOf23
  v31 := Try.zeroValue23
  t46 := Try.underlying58
  a46 := Try.isAgg58
  z46 := Try.sizeOf58
  v46 := Try.zeroValue58
  t51 := Try.underlying69
  a51 := Try.isAgg69
  z51 := Try.sizeOf69
  v51 := Try.zeroValue69
  t53 := Try.underlying71
  a53 := Try.isAgg71
  z53 := Try.sizeOf71
  v53 := Try.zeroValue71
  t131 := Try.underlying66
  a131 := Try.isAgg66
  z131 := Try.sizeOf66
  v131 := Try.zeroValue66
  t182 := Try.underlying60
  a182 := Try.isAgg60
  z182 := Try.sizeOf60
  v182 := Try.zeroValue60
  t183 := Try.underlying61
  a183 := Try.isAgg61
  z183 := Try.sizeOf61
  v183 := Try.zeroValue61
  t218 := Try.underlying72
  a218 := Try.isAgg72
  z218 := Try.sizeOf72
  v218 := Try.zeroValue72
  t222 := Try.underlying76
  a222 := Try.isAgg76
  z222 := Try.sizeOf76
  v222 := Try.zeroValue76
  t228 := Try.underlying79
  a228 := Try.isAgg79
  z228 := Try.sizeOf79
  v228 := Try.zeroValue79
  t229 := Try.underlying80
  a229 := Try.isAgg80
  z229 := Try.sizeOf80
  v229 := Try.zeroValue80 }
def laysCompact_ren : Go.Shelf.Ren := ⟨fun | 194 => 18 | n => n, fun | 31 => 23 | 9 => 9 | 3 => 3 | 4 => 4 | 0 => 0 | n => n, fun | n => n⟩
theorem laysCompact : Go.Proofs.Lays.n194 Try.prog laysCompact_ren := {
  mixed := by kernel_rfl
  f194 := Try.func18.trans (congrArg some (by kernel_rfl))
  t0 := Try.underlying0
  a0 := Try.isAgg0
  z0 := Try.sizeOf0
  v0 := Try.zeroValue0
  t3 := Try.underlying3
  a3 := Try.isAgg3
  z3 := Try.sizeOf3
  v3 := Try.zeroValue3
  t4 := Try.underlying4
  a4 := Try.isAgg4
  z4 := Try.sizeOf4
  v4 := Try.zeroValue4
  t9 := Try.underlying9
  a9 := Try.isAgg9
  z9 := Try.sizeOf9
  v9 := Try.zeroValue9
  t31 := Try.underlying23
  a31 := Try.isAgg23
  z31 := Try.sizeOf23
  v31 := Try.zeroValue23 }

end Go.Proofs.Ytbnjhfkmdejeaaa
