/- Kit, Bytes, Strs, Plain, Kit2, Texts. -/
import Derived.WalkKit
import Derived.ProofKit
import Derived.Outline
import Derived.WalkSpells
import Derived.WalkLawsBesides
import Derived.Deep.QuietTactic
import Derived.BigQuiet
import Derived.RowKit3
import Derived.Lib.Hide
import Derived.Lib.MinMax
import Derived.Lib.SmallJoins
import Derived.Deep.DeepCutAuto
import Derived.Deep.LoopGhost
import Derived.Deep.RegionHeld3
import Derived.Deep.RegionWith
import Derived.StillTailTactics
import Derived.Test.YtjppbomngnomhaaGreatDoorRows
import Derived.Deep.AppendLies
import Derived.Deep.RegionLaw
import Derived.Laws.BytesArg
import Derived.Deep.MidRow
set_option linter.unnecessarySimpa false
set_option linter.unusedSimpArgs false
set_option linter.unusedVariables false
set_option maxRecDepth 100000
set_option maxHeartbeats 32000000
namespace Go.Proofs.YtjppbomngnomhaaGreatDoor
open Go.ChangeShapes Go.WideShapes Go.ChangeAt Go.RowKit
section
variable {H : Type} {enc : TypeId × Value → H} {P : Program}
theorem trodAll_below (hl : laidOutB P = true) {W W' : World} (hb : Below W.heap.size W W') :
  ∀ (ts : List TypeId) (vs : List Value) (ds : List (DataW H)) (ps : List MemPlace), (∀ t ∈ ts, P.readableRec t = true ∧ t < P.types.size) →
   DataW.TrodAll enc P W 0 (fun _ => true) true ts vs ds ps → (∀ x ∈ ps, x.block < W.heap.size) →
   DataW.TrodAll enc P W' 0 (fun b => decide (b < W.heap.size)) true ts vs ds ps
 | [], _, _, _, _, h, _ => by
  obtain ⟨rfl, rfl, rfl⟩ := trodAll_nil h
  exact trodAll_mk0
 | t :: ts, _, _, _, ht, h, hlt => by
  obtain ⟨v, vs, d, ds, p, q, rfl, rfl, rfl, h1, h2⟩ := trodAll_cons h
  exact ⟨p, q, Below.trod hl (ht t (by simp)).1 (ht t (by simp)).2 h1 hb (fun x hx => hlt x (by simp [hx])),
   trodAll_below hl hb ts vs ds q (fun u hu => ht u (by simp [hu])) h2 (fun x hx => hlt x (by simp [hx])), rfl⟩
theorem law_post {f : Func} {s : ChangeSpec} {apart fresh handsOn : Bool} {W W' : World} {args : Array Value} {ds gs : List (DataW H)} {before : List MemPlace} {tb : TypeId}
  (hl : laidOutB P = true) (hp : f.params.toList.all (fun t => P.readableRec t && decide (t < P.types.size)) = true)
  (hW : DataW.Whole enc P f.params.toList s.vars apart W args.toList ds gs before) (hv : s.vars = [])
  (hr : f.resultTypes = #[tb]) (htb : P.underlying tb = some .bool)
  (hs : s.fn H (ds ++ gs) = { results := [.lit (.bool true)], args := ds }) (hb : Below W.heap.size W W') :
  s.post enc P f apart fresh handsOn false W args (.bool true) W' := by
 have hlt := hW.lt
 have hW' := hW
 obtain ⟨p, q, hA, hV, rfl, hfz, hnd⟩ := hW
 rw [hv] at hV
 obtain ⟨rfl, rfl⟩ := trodVars_none hV
 refine ⟨ds, [], p ++ [], [], p, [], hW', ?_, ?_, ?_, hb.frame _, fun h => by cases h⟩
 ·rw [hs, hr]; exact trodAll_mk1 (shut_bool htb _)
 ·rw [hs]
  refine trodAll_below hl hb _ _ _ _ (fun t ht => ?_) hA (fun x hx => hlt x (by simp [hx]))
  have := List.all_eq_true.1 hp t ht
  simpa using this
 ·rw [hv, hs]; exact rfl
end
theorem bcell {W w1 : World} (hb : Below W.heap.size W w1) : (∀ b o, b < W.heap.size → w1.cell? ⟨b, o, none⟩ = W.cell? ⟨b, o, none⟩) ∧ (∀ b o, b < W.heap.size → w1.frozen? ⟨b, o, none⟩ = W.frozen? ⟨b, o, none⟩) :=
 ⟨fun b o h => hb.cell (p := ⟨b, o, none⟩) h, fun b o h => hb.frozen (p := ⟨b, o, none⟩) h⟩
theorem keepC {W w1 : World} (hb : Below W.heap.size W w1) {b o : Nat} {v : Value} (h : W.cell? ⟨b, o, none⟩ = some v) : w1.cell? ⟨b, o, none⟩ = some v := by
 have hlt : b < W.heap.size := by
  rcases Nat.lt_or_ge b W.heap.size with h' | h'
  ·exact h'
  ·simp [World.cell?, Array.getElem?_eq_none h'] at h
 rw [hb.cell (p := ⟨b, o, none⟩) hlt]; exact h
theorem keepF {W w1 : World} (hb : Below W.heap.size W w1) {b o : Nat} (hlt : b < W.heap.size) (h : W.frozen? ⟨b, o, none⟩ = false) : w1.frozen? ⟨b, o, none⟩ = false := by
 rw [hb.frozen (p := ⟨b, o, none⟩) hlt]; exact h
@[go_sem, simp] theorem str_app (l m : List UInt8) : (⟨List.toArray l⟩ : ByteArray) ++ ⟨List.toArray m⟩ = ⟨List.toArray (l ++ m)⟩ := by
 apply ByteArray.ext
 apply Array.ext'
 simp
@[go_sem, simp] theorem ext_list (l : List UInt8) (a b : Nat) : (⟨List.toArray l⟩ : ByteArray).extract a b = ⟨List.toArray ((l.drop a).take (b - a))⟩ := by
 apply ByteArray.ext
 apply Array.ext'
 simp
@[go_sem, simp] theorem str_get (l : List UInt8) (i : Nat) (h : i < (⟨List.toArray l⟩ : ByteArray).size) : (⟨List.toArray l⟩ : ByteArray)[i]'h = l[i]'(by simpa [ByteArray.size] using h) := rfl
theorem ofInt64_nat (a : Nat) (ha : a < 9223372036854775808) : (BitVec.ofInt 64 (a : Int)).toNat = a := by
 rw [BitVec.toNat_ofInt]
 omega
theorem wrap_i64_nat (a : Nat) (ha : a < 9223372036854775808) : IntKind.i64.wrap (a : Int) = a := by
 rw [IntKind.wrap_i64]; omega
theorem i64_or_nat (a b : Nat) (ha : a < 9223372036854775808) (hb : b < 9223372036854775808) : bits .or .i64 (a : Int) (b : Int) = ((a ||| b : Nat) : Int) := by
 have hx : a ||| b < 2 ^ 63 := Nat.or_lt_two_pow (by omega) (by omega)
 show IntKind.i64.wrap ((BitVec.ofInt 64 (a : Int) ||| BitVec.ofInt 64 (b : Int)).toNat : Int) = _
 rw [BitVec.toNat_or, ofInt64_nat a ha, ofInt64_nat b hb]
 exact wrap_i64_nat _ (by omega)
theorem i64_and_nat (a b : Nat) (ha : a < 9223372036854775808) (hb : b < 9223372036854775808) : bits .and .i64 (a : Int) (b : Int) = ((a &&& b : Nat) : Int) := by
 have hx : a &&& b < 2 ^ 63 := Nat.and_lt_two_pow _ (by omega)
 show IntKind.i64.wrap ((BitVec.ofInt 64 (a : Int) &&& BitVec.ofInt 64 (b : Int)).toNat : Int) = _
 rw [BitVec.toNat_and, ofInt64_nat a ha, ofInt64_nat b hb]
 exact wrap_i64_nat _ (by omega)
theorem i64_or_byte (m x : Nat) (hm : m < 36028797018963968) (hx : x < 256) : bits .or .i64 ((m : Int) * 256) (x : Int) = ((m * 256 + x : Nat) : Int) := by
 have h := i64_or_nat (m * 256) x (by omega) (by omega)
 have h2 : m * 256 ||| x = m * 256 + x := by
  have := Nat.two_pow_add_eq_or_of_lt (i := 8) (b := x) (by omega) m
  rw [Nat.mul_comm m 256]
  exact this.symm
 rw [h2] at h
 rw [← h]
 simp
theorem u8_and15 (n : Nat) (h : n < 256) : bits .and .u8 (n : Int) 15 = ((n % 16 : Nat) : Int) := by
 have h1 := u8_and_nat n 15 h (by omega)
 rw [Nat.and_two_pow_sub_one_eq_mod n 4] at h1
 exact h1
theorem u8_or_hi (a b : Nat) (ha : a < 16) (hb : b < 16) : bits .or .u8 ((a : Int) * 16) (b : Int) = ((a * 16 + b : Nat) : Int) := by
 have h := u8_or_nat (a * 16) b (by omega) (by omega)
 have h2 : a * 16 ||| b = a * 16 + b := by
  have := Nat.two_pow_add_eq_or_of_lt (i := 4) (b := b) (by omega) a
  rw [Nat.mul_comm a 16]
  exact this.symm
 rw [h2] at h
 rw [← h]
 simp
theorem ret_two {v0 v1 u0 u1 : Value} (h0 : v0 = u0) (h1 : v1 = u1) : Ending.returned (.tuple #[v0, v1]) = .returned (.tuple #[u0, u1]) := by rw [h0, h1]
theorem str_eq {l m : List UInt8} (h : l = m) : Value.string ⟨List.toArray l⟩ = .string ⟨List.toArray m⟩ := by rw [h]
theorem below_drewN {B : Nat} {a w : World} (h : Below B a w) (n : Nat) : Below B a (w.drewN n) := ⟨h.os, h.tape, h.output, h.size, h.block⟩
theorem Below.allocS {w w' : World} (h : Below w.heap.size w w') (o : Obj) : Below w.heap.size w (w'.alloc o) := h.alloc h.size o
structure Blk (w : World) (b : Nat) (cs : Array Value) : Prop where
 cell : ∀ o, w.cell? ⟨b, o, none⟩ = cs[o]?
 froz : ∀ o, w.frozen? ⟨b, o, none⟩ = false
 lt : b < w.heap.size
theorem Blk.keep {W w1 : World} (hb : Below W.heap.size W w1) {b : Nat} {cs : Array Value} (h : Blk W b cs) : Blk w1 b cs :=
 ⟨fun o => (hb.cell (p := ⟨b, o, none⟩) h.lt).trans (h.cell o), fun o => (hb.frozen (p := ⟨b, o, none⟩) h.lt).trans (h.froz o), Nat.lt_of_lt_of_le h.lt hb.size⟩
theorem Blk.new (w : World) (cs : Array Value) (t : TypeId) : Blk (w.alloc (.cells cs t)) w.heap.size cs :=
 ⟨fun o => by simp, fun o => by simp, by simp⟩
theorem Blk.new' {w : World} {cs : Array Value} {t : TypeId} {n : Nat} (h : n = w.heap.size) : Blk (w.alloc (.cells cs t)) n cs := by
 subst h; exact Blk.new w cs t
theorem Blk.alloc {w : World} {b : Nat} {cs : Array Value} (h : Blk w b cs) (o : Obj) : Blk (w.alloc o) b cs :=
 ⟨fun i => (World.cell?_alloc_past o b i h.lt).trans (h.cell i), fun i => (World.frozen?_alloc_past o b i h.lt).trans (h.froz i), by simp; have := h.lt; omega⟩
theorem Blk.drew {w : World} {b : Nat} {cs : Array Value} (h : Blk w b cs) : Blk w.drew b cs := ⟨h.cell, h.froz, h.lt⟩
theorem Blk.other {w : World} {b : Nat} {cs : Array Value} (h : Blk w b cs) {a : Addr} (ha : a.block ≠ b) (v : Value) : Blk (w.setCell a v) b cs :=
 ⟨fun i => (World.cell?_setCell_other w a ⟨b, i, none⟩ v (fun e => ha (by rw [e]))).trans (h.cell i), fun i => (World.frozen?_setCell _ _ _ _).trans (h.froz i), by simpa [World.setCell] using h.lt⟩
theorem Blk.set {w : World} {b : Nat} {cs : Array Value} (h : Blk w b cs) (i : Nat) (v : Value) : Blk (w.setCell ⟨b, i, none⟩ v) b (cs.setIfInBounds i v) := by
 refine ⟨fun o => ?_, fun o => (World.frozen?_setCell _ _ _ _).trans (h.froz o), by simpa [World.setCell] using h.lt⟩
 rw [Array.getElem?_setIfInBounds]
 by_cases e : i = o
 ·subst e
  rw [if_pos rfl]
  split
  ·rename_i hlt
   exact World.cell?_setCell_same w _ v (u := cs[i]) (by rw [h.cell i]; simp [hlt])
  ·rename_i hge
   have h1 : w.cell? ⟨b, i, none⟩ = none := by rw [h.cell i]; simp; omega
   have h2 := h.lt
   unfold World.cell? World.setCell at *
   simp only [Array.getElem?_modify, if_true] at *
   cases hh : w.heap[b]? with
   | none => simp
   | some ob => cases ob <;> simp_all
 ·rw [if_neg e, World.cell?_setCell_other w _ _ v (by intro hh; injection hh; contradiction)]
  exact h.cell o
theorem conv_str {P : Program} {w : World} (src e dst : TypeId) (hs : P.underlying src = some (.slice e)) (he : P.underlying e = some (.int .u8)) (hd : P.underlying dst = some .string) (b off len cap : Nat) (l : List UInt8) (hlen : l.length = len)
  (hcell : ∀ i, i < len → w.cell? ⟨b, off + i, none⟩ = some (.int .u8 ((l.getD i 0).toNat : Int))) :
  (convert src dst (.slice (some ⟨b, off, none⟩) len cap)).run P w = .ok (.string ⟨List.toArray l⟩) w := by
 have h := run_convert_bytes_arg (P := P) w src e hs he b off len cap (l.map fun c => (c.toNat : Int)) (by simpa using hlen) (fun i hi => by
  rw [hcell i hi]
  simp [List.getD, List.getElem?_eq_getElem (show i < l.length by omega)]) dst hd
 rw [h]
 congr 2
 apply ByteArray.ext
 apply Array.ext'
 rw [strOfNums_data]
 simp only [List.map_map]
 refine (List.map_congr_left (g := id) fun c _ => ?_).trans (by simp)
 simp [Function.comp]
@[go_sem] theorem run_conv0 {P : Program} {W : World} (src dst g o n : Nat) (hs : P.underlying src = some (.slice (P.elem src))) (he : P.underlying (P.elem src) = some (.int .u8)) (hd : P.underlying dst = some .string) :
  (convert src dst (.slice (some ⟨g, o, none⟩) 0 n)).run P W = .ok (.string ⟨List.toArray []⟩) W := by
 have h' := run_convert_bytes_arg (P := P) W src _ hs he g o 0 n [] rfl (fun i hi => by omega) dst hd
 rw [h']; rfl
@[go_sem] theorem run_conv1 {P : Program} {W : World} (src dst g n : Nat) (hs : P.underlying src = some (.slice (P.elem src))) (he : P.underlying (P.elem src) = some (.int .u8)) (hd : P.underlying dst = some .string) :
  (convert src dst (.slice (some ⟨g, 0, none⟩) 1 n)).run P W = match W.cell? ⟨g, 0, none⟩ with
   | some (.int .u8 x) => .ok (.string ⟨List.toArray [UInt8.ofNat x.toNat]⟩) W
   | _ => (Conv.bytesToString (.slice (some ⟨g, 0, none⟩) 1 n)).run P W := by
 split
 ·rename_i x h
  have h' := run_convert_bytes_arg (P := P) W src _ hs he g 0 1 n [x] rfl (fun i hi => by
   have : i = 0 := by omega
   subst this; simpa using h) dst hd
  rw [h']; rfl
 ·exact run_convert_bytes_string W src dst _ _ 1 n hs he hd
@[go_sem] theorem run_conv2 {P : Program} {W : World} (src dst g n : Nat) (hs : P.underlying src = some (.slice (P.elem src))) (he : P.underlying (P.elem src) = some (.int .u8)) (hd : P.underlying dst = some .string) :
  (convert src dst (.slice (some ⟨g, 0, none⟩) 2 n)).run P W = match W.cell? ⟨g, 0, none⟩, W.cell? ⟨g, 1, none⟩ with
   | some (.int .u8 x), some (.int .u8 y) => .ok (.string ⟨List.toArray [UInt8.ofNat x.toNat, UInt8.ofNat y.toNat]⟩) W
   | _, _ => (Conv.bytesToString (.slice (some ⟨g, 0, none⟩) 2 n)).run P W := by
 split
 ·rename_i x y h h2
  have h' := run_convert_bytes_arg (P := P) W src _ hs he g 0 2 n [x, y] rfl (fun i hi => by
   match i, hi with
   | 0, _ => simpa using h
   | 1, _ => simpa using h2) dst hd
  rw [h']; rfl
 ·exact run_convert_bytes_string W src dst _ _ 2 n hs he hd
structure Mod (l : List Nat) (w w' : World) : Prop where
 os : w'.os = w.os
 tape : w'.tape = w.tape
 output : w'.output = w.output
 size : w.heap.size ≤ w'.heap.size
 block : ∀ k, k < w.heap.size → k ∉ l → w'.heap[k]? = w.heap[k]?
theorem Mod.refl (l : List Nat) (w : World) : Mod l w w := ⟨rfl, rfl, rfl, Nat.le_refl _, fun _ _ _ => rfl⟩
theorem Mod.trans {l : List Nat} {a b c : World} (h : Mod l a b) (k : Mod l b c) : Mod l a c :=
 ⟨k.os.trans h.os, k.tape.trans h.tape, k.output.trans h.output, Nat.le_trans h.size k.size, fun i hi hn => (k.block i (Nat.lt_of_lt_of_le hi h.size) hn).trans (h.block i hi hn)⟩
theorem Mod.drew {l : List Nat} {a w : World} (h : Mod l a w) : Mod l a w.drew := ⟨h.os, h.tape, h.output, h.size, h.block⟩
theorem Mod.drewN {l : List Nat} {a w : World} (h : Mod l a w) (n : Nat) : Mod l a (w.drewN n) := ⟨h.os, h.tape, h.output, h.size, h.block⟩
theorem Mod.of_below {l : List Nat} {w w' : World} (h : Below w.heap.size w w') : Mod l w w' := ⟨h.os, h.tape, h.output, h.size, fun k hk _ => h.block k hk⟩
theorem Mod.sub {l m : List Nat} {w w' : World} (h : Mod l w w') (hs : ∀ x ∈ l, x ∈ m ∨ w.heap.size ≤ x) : Mod m w w' :=
 ⟨h.os, h.tape, h.output, h.size, fun k hk hn => h.block k hk (fun hm => (hs k hm).elim hn (by omega))⟩
theorem Mod.setCell {l : List Nat} {a w : World} (h : Mod l a w) {p : Addr} (hp : p.block ∈ l ∨ a.heap.size ≤ p.block) (u : Value) : Mod l a (w.setCell p u) := by
 refine ⟨h.os, h.tape, h.output, by simpa [World.setCell] using h.size, fun k hk hn => (Below.heap_setCell _ _ _ _ ?_).trans (h.block k hk hn)⟩
 intro e
 subst e
 rcases hp with hp | hp
 ·exact hn hp
 ·omega
theorem Mod.call {l m : List Nat} {a w w' : World} (h : Mod l a w) (k : Mod m w w') (hs : ∀ x ∈ m, x ∈ l ∨ a.heap.size ≤ x) : Mod l a w' :=
 ⟨k.os.trans h.os, k.tape.trans h.tape, k.output.trans h.output, Nat.le_trans h.size k.size, fun i hi hn =>
  (k.block i (Nat.lt_of_lt_of_le hi h.size) (fun hm => (hs i hm).elim hn (by omega))).trans (h.block i hi hn)⟩
theorem Blk.of_block {w w' : World} {b : Nat} {cs : Array Value} (h : Blk w b cs) (hb : w'.heap[b]? = w.heap[b]?) (hs : w.heap.size ≤ w'.heap.size) : Blk w' b cs :=
 ⟨fun o => (World.cell?_of_block (w := w) hb).trans (h.cell o), fun o => (World.frozen?_of_block (w := w) hb).trans (h.froz o), Nat.lt_of_lt_of_le h.lt hs⟩
theorem Blk.mod {w w' : World} {b : Nat} {cs : Array Value} (h : Blk w b cs) {l : List Nat} (hm : Mod l w w') (hb : b ∉ l) : Blk w' b cs :=
 h.of_block (hm.block b h.lt hb) hm.size
theorem Blk.drewN {w : World} {b : Nat} {cs : Array Value} (h : Blk w b cs) (n : Nat) : Blk (w.drewN n) b cs := ⟨h.cell, h.froz, h.lt⟩
theorem Below.mod {B : Nat} {a w w' : World} {l : List Nat} (h : Below B a w) (hm : Mod l w w') (hB : B ≤ w.heap.size) (hl : ∀ x ∈ l, B ≤ x) : Below B a w' :=
 h.trans ⟨hm.os, hm.tape, hm.output, hm.size, fun k hk => hm.block k (by omega) (fun hx => by have := hl k hx; omega)⟩
end Go.Proofs.YtjppbomngnomhaaGreatDoor
namespace Go.Proofs.YtjppbomngnomhaaGreatDoor
open Go.RowKit
theorem infoU8 : (Tryz.prog.info? 5).map (fun i => (i.zero, i.size, i.bytes)) = some (some (.int .u8 0), 1, 1) := by kernel_rfl
def bv (l : List UInt8) : List Value := l.map fun c => Value.int .u8 (c.toNat : Int)
def BRow (w : World) (base : Nat) (v : Value) (l : List UInt8) : Prop := w.ownsRow base 5 1 v l.length (bv l)
theorem bv_len (l : List UInt8) : (bv l).length = l.length := by simp [bv]
theorem BRow.nil (w : World) (base : Nat) : BRow w base (.slice none 0 0) [] := ⟨rfl, .inl ⟨rfl, rfl⟩⟩
theorem BRow.cells {w : World} {base : Nat} {v : Value} {l : List UInt8} (h : BRow w base v l) :
  (v = .slice none 0 0 ∧ l = []) ∨ ∃ g cap, v = .slice (some ⟨g, 0, none⟩) l.length cap ∧ base ≤ g ∧ g < w.heap.size ∧ l.length ≤ cap ∧ cap ≤ maxLen ∧ (∀ i, i < l.length → w.cell? ⟨g, i, none⟩ = some (.int .u8 ((l.getD i 0).toNat : Int))) ∧ ∀ o, w.frozen? ⟨g, o, none⟩ = false := by
 rcases h.2 with ⟨h1, h2⟩ | ⟨g, cap, cur, hv, hb, hg, hn, hm, hc, ht⟩
 ·exact .inl ⟨h1, List.length_eq_zero_iff.1 h2⟩
 ·refine .inr ⟨g, cap, hv, hb, ?_, hn, hm, fun i hi => ?_, fun o => ?_⟩
  ·rcases Nat.lt_or_ge g w.heap.size with hlt | hge
   ·exact hlt
   ·rw [Array.getElem?_eq_none hge] at hg; cases hg
  ·have h1 : cur[i]? = (cur.toList.take (l.length * 1))[i]? := by
    rw [List.getElem?_take, if_pos (by omega)]; simp
   have h2 : w.cell? ⟨g, i, none⟩ = cur[i]? := by simp [World.cell?, hg]
   rw [h2, h1, ht]
   simp [bv, List.getD, List.getElem?_eq_getElem hi]
  ·simp [World.frozen?, hg]
theorem grown_below {w w' : World} {base : Nat} {row : Option Nat} (hg : w.grownBy w' row) (hb : base ≤ w.heap.size) (hr : ∀ k, row = some k → base ≤ k) : Below base w w' :=
 (Below.refl base w).grown hg hb hr
theorem BRow.own {w : World} {base : Nat} {v : Value} {l : List UInt8} (h : BRow w base v l) : ∀ k, v.ownBlock = some k → base ≤ k := by
 intro k hk
 rcases h.cells with ⟨rfl, _⟩ | ⟨g, cap, rfl, hb, _⟩
 ·cases hk
 ·cases hk; exact hb
theorem BRow.make (w : World) (base c : Nat) (hc : c ≤ 281474976710656) (hbase : base ≤ w.heap.size) :
  ∃ w', (Instr.makeSlice 59 (.int .i64 0) (.int .i64 (c : Int))).run Tryz.prog w = .ok (.slice (some ⟨w.heap.size, 0, none⟩) 0 c) w' ∧
   BRow w' base (.slice (some ⟨w.heap.size, 0, none⟩) 0 c) [] ∧ Below base w w' := by
 obtain ⟨i0, hi, hz0, hz1, hz2⟩ := info_parts infoU8
 obtain ⟨w', h1, h2, h3⟩ := run_make_own (P := Tryz.prog) w base 59 5 i0 (.int .u8 0) 1 Tryz.underlying59 hi hz0 hz1 .i64 .i64 c (by rw [hz2]; omega) (by unfold maxLen; omega) hbase
 exact ⟨w', h1, h2, grown_below h3 hbase (fun k hk => by cases hk)⟩
theorem BRow.conv {w : World} {base : Nat} {v : Value} {l : List UInt8} (h : BRow w base v l) : (convert 59 9 v).run Tryz.prog w = .ok (.string ⟨List.toArray l⟩) w := by
 rcases h.cells with ⟨rfl, rfl⟩ | ⟨g, cap, rfl, hb, hlt, hn, hm, hc, hf⟩
 ·exact run_convert_bytes_nil w 59 5 Tryz.underlying59 Tryz.underlying5 0 0 9 Tryz.underlying9
 ·exact conv_str 59 5 9 Tryz.underlying59 Tryz.underlying5 Tryz.underlying9 g 0 l.length cap l rfl (fun i hi => by simpa using hc i hi)
theorem BRow.kept {w w' : World} {base : Nat} {v : Value} {l : List UInt8} (h : BRow w base v l) (hb : ∀ k, v.ownBlock = some k → w'.heap[k]? = w.heap[k]?) : BRow w' base v l := by
 refine ⟨h.1, h.2.imp id ?_⟩
 rintro ⟨g, cap, cur, hv, h1, h2, h3⟩
 subst hv
 exact ⟨g, cap, cur, rfl, h1, (hb g rfl).trans h2, h3⟩
theorem BRow.alloc {w : World} {base : Nat} {v : Value} {l : List UInt8} (h : BRow w base v l) (o : Obj) : BRow (w.alloc o) base v l := by
 refine h.kept (fun k hk => Below.heap_alloc _ _ _ ?_)
 rcases h.cells with ⟨rfl, rfl⟩ | ⟨g, cap, rfl, _, hlt, _⟩
 ·cases hk
 ·cases hk; exact hlt
theorem BRow.drew {w : World} {base : Nat} {v : Value} {l : List UInt8} (h : BRow w base v l) : BRow w.drew base v l := h
def BSrc (w : World) (g o : Nat) (l : List UInt8) : Prop := ∀ i, i < l.length → w.cell? ⟨g, o + i, none⟩ = some (.int .u8 ((l.getD i 0).toNat : Int))
theorem bsrc1 (w : World) (x : UInt8) (a : Int) (t : TypeId) (ha : a = (x.toNat : Int)) : BSrc (w.alloc (.cells #[.int .u8 a] t)) w.heap.size 0 [x] := by
 intro i hi
 have : i = 0 := by simp at hi; omega
 subst this; subst ha
 simp
theorem bsrc2 (w : World) (x y : UInt8) (a b : Int) (t : TypeId) (ha : a = (x.toNat : Int)) (hb : b = (y.toNat : Int)) : BSrc (w.alloc (.cells #[.int .u8 a, .int .u8 b] t)) w.heap.size 0 [x, y] := by
 intro i hi
 subst ha; subst hb
 match i, hi with
 | 0, _ => simp
 | 1, _ => simp
theorem BSrc.drew {w : World} {g o : Nat} {l : List UInt8} (h : BSrc w g o l) : BSrc w.drew g o l := h
theorem bsrc_news {w : World} {g o : Nat} {l : List UInt8} (h : BSrc w g o l) : ∀ j u, (bv l)[j]? = some u → w.cell? ((⟨g, o, none⟩ : Addr).add j) = some u := by
 intro j u hj
 have hjl : j < l.length := by
  rcases Nat.lt_or_ge j l.length with hlt | hge
  ·exact hlt
  ·rw [List.getElem?_eq_none (by rw [bv_len]; exact hge)] at hj; cases hj
 have hadd : (⟨g, o, none⟩ : Addr).add j = ⟨g, o + j, none⟩ := by unfold Addr.add; split <;> simp_all
 rw [hadd, h j hjl]
 simp [bv, List.getElem?_eq_getElem hjl] at hj
 simp [List.getD, List.getElem?_eq_getElem hjl, hj]
theorem bone (l : List UInt8) : ∀ u ∈ bv l, u.oneCell' = true := by
 intro u hu
 simp [bv] at hu
 obtain ⟨c, _, rfl⟩ := hu
 rfl
section
variable {ops : Array Oper} {o : Oper} {a : Act} {w : World} {Q : Exit → Act → World → Prop}
theorem wp_appB {K : Act → World → Prop} (s x : Operand)
  (ho : o.op = .call { callee := .builtin .append, args := #[s, x], argTypes := #[59, 59] })
  (base : Nat) (v : Value) (l : List UInt8) (hs : a.eval s = v) (hown : BRow w base v l)
  (g off m c : Nat) (news : List UInt8) (hx : a.eval x = .slice (some ⟨g, off, none⟩) m c) (hm : news.length = m) (hsrc : BSrc w g off news)
  (hlen : l.length + m ≤ 140737488355328) (hbase : base ≤ w.heap.size)
  (h : ∀ v' w', BRow w' base v' (l ++ news) → Below base w w' → K (a.put o.dst v') w') : o.wp Tryz.prog a w K Q := by
 obtain ⟨i0, hi, hz0, hz1, hz2⟩ := info_parts infoU8
 refine wp_append_own w s x 59 ho base 5 i0 (.int .u8 0) 1 1 Tryz.underlying59 hi hz0 hz1 hz2 rfl (by decide) v l.length (bv l) hs hown ⟨g, off, none⟩ m c (bv news) hx (by rw [bv_len, hm]; omega) (bsrc_news hsrc) (bone news)
  (by unfold maxLen; omega) (by omega) hbase (fun v' w' h2 h3 _ => h v' w' ?_ (grown_below h3 hbase hown.own))
 unfold BRow
 rw [List.length_append, hm, show bv (l ++ news) = bv l ++ bv news from by simp [bv]]
 exact h2
theorem wpList_appB {rest : List Oper} (hgd : o.guard = none) (s x : Operand)
  (ho : o.op = .call { callee := .builtin .append, args := #[s, x], argTypes := #[59, 59] })
  (base : Nat) (v : Value) (l : List UInt8) (hs : a.eval s = v) (hown : BRow w base v l)
  (g off m c : Nat) (news : List UInt8) (hx : a.eval x = .slice (some ⟨g, off, none⟩) m c) (hm : news.length = m) (hsrc : BSrc w g off news)
  (hlen : l.length + m ≤ 140737488355328) (hbase : base ≤ w.heap.size)
  (h : ∀ v' w', BRow w' base v' (l ++ news) → Below base w w' → wpList Tryz.prog ops Q rest (a.put o.dst v') w') : wpList Tryz.prog ops Q (o :: rest) a w :=
 wpList_plain hgd fun _ hK => wp_appB s x ho base v l hs hown g off m c news hx hm hsrc hlen hbase fun v' w' h2 h3 => hK _ _ (h v' w' h2 h3)
theorem step_appB {K : Act → World → Prop} {E : Prop} (hgd : o.guard = none) (s x : Operand)
  (ho : o.op = .call { callee := .builtin .append, args := #[s, x], argTypes := #[59, 59] })
  (base : Nat) (v : Value) (l : List UInt8) (hs : a.eval s = v) (hown : BRow w base v l)
  (g off m c : Nat) (news : List UInt8) (hx : a.eval x = .slice (some ⟨g, off, none⟩) m c) (hm : news.length = m) (hsrc : BSrc w g off news)
  (hlen : l.length + m ≤ 140737488355328) (hbase : base ≤ w.heap.size)
  (h : ∀ v' w', BRow w' base v' (l ++ news) → Below base w w' → K (a.put o.dst v') w') :
  if Region.wanted o (yielded ops a.tmps) = true then Oper.wp Tryz.prog o a w K Q else E := by
 have hw : Region.wanted o (yielded ops a.tmps) = true := by simp [Region.wanted, hgd]
 rw [if_pos hw]
 exact wp_appB s x ho base v l hs hown g off m c news hx hm hsrc hlen hbase h
end
end Go.Proofs.YtjppbomngnomhaaGreatDoor
namespace Go.Proofs.YtjppbomngnomhaaGreatDoor
open Go.RowKit
theorem infoStr : (Tryz.prog.info? 9).map (fun i => (i.zero, i.size, i.bytes)) = some (some (.string ⟨#[]⟩), 1, 16) := by kernel_rfl
def sv (l : List (List UInt8)) : List Value := l.map fun c => Value.string ⟨List.toArray c⟩
def SRow (w : World) (base : Nat) (v : Value) (l : List (List UInt8)) : Prop := w.ownsRow base 9 1 v l.length (sv l)
theorem sv_len (l : List (List UInt8)) : (sv l).length = l.length := by simp [sv]
theorem SRow.nil (w : World) (base : Nat) : SRow w base (.slice none 0 0) [] := ⟨rfl, .inl ⟨rfl, rfl⟩⟩
theorem SRow.cells {w : World} {base : Nat} {v : Value} {l : List (List UInt8)} (h : SRow w base v l) :
  (v = .slice none 0 0 ∧ l = []) ∨ ∃ g cap, v = .slice (some ⟨g, 0, none⟩) l.length cap ∧ base ≤ g ∧ g < w.heap.size ∧ l.length ≤ cap ∧ cap ≤ maxLen ∧ (∀ i, i < l.length → w.cell? ⟨g, i, none⟩ = some (.string ⟨List.toArray (l.getD i [])⟩)) ∧ ∀ o, w.frozen? ⟨g, o, none⟩ = false := by
 rcases h.2 with ⟨h1, h2⟩ | ⟨g, cap, cur, hv, hb, hg, hn, hm, hc, ht⟩
 ·exact .inl ⟨h1, List.length_eq_zero_iff.1 h2⟩
 ·refine .inr ⟨g, cap, hv, hb, ?_, hn, hm, fun i hi => ?_, fun o => ?_⟩
  ·rcases Nat.lt_or_ge g w.heap.size with hlt | hge
   ·exact hlt
   ·rw [Array.getElem?_eq_none hge] at hg; cases hg
  ·have h1 : cur[i]? = (cur.toList.take (l.length * 1))[i]? := by
    rw [List.getElem?_take, if_pos (by omega)]; simp
   have h2 : w.cell? ⟨g, i, none⟩ = cur[i]? := by simp [World.cell?, hg]
   rw [h2, h1, ht]
   simp [sv, List.getD, List.getElem?_eq_getElem hi]
  ·simp [World.frozen?, hg]
theorem SRow.form {w : World} {base : Nat} {v : Value} {l : List (List UInt8)} (h : SRow w base v l) : ∃ (a : Option Addr) (cap : Nat), v = .slice a l.length cap := by
 rcases h.cells with ⟨rfl, rfl⟩ | ⟨g, cap, rfl, _⟩
 ·exact ⟨none, 0, rfl⟩
 ·exact ⟨_, cap, rfl⟩
theorem SRow.own {w : World} {base : Nat} {v : Value} {l : List (List UInt8)} (h : SRow w base v l) : ∀ k, v.ownBlock = some k → base ≤ k := by
 intro k hk
 rcases h.cells with ⟨rfl, _⟩ | ⟨g, cap, rfl, hb, _⟩
 ·cases hk
 ·cases hk; exact hb
theorem SRow.kept {w w' : World} {base : Nat} {v : Value} {l : List (List UInt8)} (h : SRow w base v l) (hb : ∀ k, v.ownBlock = some k → w'.heap[k]? = w.heap[k]?) : SRow w' base v l := by
 refine ⟨h.1, h.2.imp id ?_⟩
 rintro ⟨g, cap, cur, hv, h1, h2, h3⟩
 subst hv
 exact ⟨g, cap, cur, rfl, h1, (hb g rfl).trans h2, h3⟩
theorem SRow.alloc {w : World} {base : Nat} {v : Value} {l : List (List UInt8)} (h : SRow w base v l) (o : Obj) : SRow (w.alloc o) base v l := by
 refine h.kept (fun k hk => Below.heap_alloc _ _ _ ?_)
 rcases h.cells with ⟨rfl, rfl⟩ | ⟨g, cap, rfl, _, hlt, _⟩
 ·cases hk
 ·cases hk; exact hlt
def SSrc (w : World) (g o : Nat) (l : List (List UInt8)) : Prop := ∀ i, i < l.length → w.cell? ⟨g, o + i, none⟩ = some (.string ⟨List.toArray (l.getD i [])⟩)
theorem ssrc1 (w : World) (x : List UInt8) (t : TypeId) : SSrc (w.alloc (.cells #[.string ⟨List.toArray x⟩] t)) w.heap.size 0 [x] := by
 intro i hi
 have : i = 0 := by simp at hi; omega
 subst this
 simp
theorem ssrc_news {w : World} {g o : Nat} {l : List (List UInt8)} (h : SSrc w g o l) : ∀ j u, (sv l)[j]? = some u → w.cell? ((⟨g, o, none⟩ : Addr).add j) = some u := by
 intro j u hj
 have hjl : j < l.length := by
  rcases Nat.lt_or_ge j l.length with hlt | hge
  ·exact hlt
  ·rw [List.getElem?_eq_none (by rw [sv_len]; exact hge)] at hj; cases hj
 have hadd : (⟨g, o, none⟩ : Addr).add j = ⟨g, o + j, none⟩ := by unfold Addr.add; split <;> simp_all
 rw [hadd, h j hjl]
 simp [sv, List.getElem?_eq_getElem hjl] at hj
 simp [List.getD, List.getElem?_eq_getElem hjl, hj]
theorem sone (l : List (List UInt8)) : ∀ u ∈ sv l, u.oneCell' = true := by
 intro u hu
 simp [sv] at hu
 obtain ⟨c, _, rfl⟩ := hu
 rfl
section
variable {ops : Array Oper} {o : Oper} {a : Act} {w : World} {Q : Exit → Act → World → Prop}
theorem wp_appS {K : Act → World → Prop} (s x : Operand)
  (ho : o.op = .call { callee := .builtin .append, args := #[s, x], argTypes := #[39, 39] })
  (base : Nat) (v : Value) (l : List (List UInt8)) (hs : a.eval s = v) (hown : SRow w base v l)
  (g off m c : Nat) (news : List (List UInt8)) (hx : a.eval x = .slice (some ⟨g, off, none⟩) m c) (hm : news.length = m) (hsrc : SSrc w g off news)
  (hlen : l.length + m ≤ 8796093022208) (hbase : base ≤ w.heap.size)
  (h : ∀ v' w', SRow w' base v' (l ++ news) → Below base w w' → K (a.put o.dst v') w') : o.wp Tryz.prog a w K Q := by
 obtain ⟨i0, hi, hz0, hz1, hz2⟩ := info_parts infoStr
 refine wp_append_own w s x 39 ho base 9 i0 (.string ⟨#[]⟩) 1 16 Tryz.underlying39 hi hz0 hz1 hz2 rfl (by decide) v l.length (sv l) hs hown ⟨g, off, none⟩ m c (sv news) hx (by rw [sv_len, hm]; omega) (ssrc_news hsrc) (sone news)
  (by unfold maxLen; omega) (by omega) hbase (fun v' w' h2 h3 _ => h v' w' ?_ (grown_below h3 hbase hown.own))
 unfold SRow
 rw [List.length_append, hm, show sv (l ++ news) = sv l ++ sv news from by simp [sv]]
 exact h2
theorem wpList_appS {rest : List Oper} (hgd : o.guard = none) (s x : Operand)
  (ho : o.op = .call { callee := .builtin .append, args := #[s, x], argTypes := #[39, 39] })
  (base : Nat) (v : Value) (l : List (List UInt8)) (hs : a.eval s = v) (hown : SRow w base v l)
  (g off m c : Nat) (news : List (List UInt8)) (hx : a.eval x = .slice (some ⟨g, off, none⟩) m c) (hm : news.length = m) (hsrc : SSrc w g off news)
  (hlen : l.length + m ≤ 8796093022208) (hbase : base ≤ w.heap.size)
  (h : ∀ v' w', SRow w' base v' (l ++ news) → Below base w w' → wpList Tryz.prog ops Q rest (a.put o.dst v') w') : wpList Tryz.prog ops Q (o :: rest) a w :=
 wpList_plain hgd fun _ hK => wp_appS s x ho base v l hs hown g off m c news hx hm hsrc hlen hbase fun v' w' h2 h3 => hK _ _ (h v' w' h2 h3)
end
end Go.Proofs.YtjppbomngnomhaaGreatDoor
namespace Go.Proofs.YtjppbomngnomhaaGreatDoor
namespace Pl
abbrev Bs := List UInt8
def fit (p : Bs) : Bool := p.all fun c => decide (c.toNat ≤ 15)
def ofP (s : Bs) : Bs := s.flatMap fun c => [UInt8.ofNat (c.toNat / 16), UInt8.ofNat (c.toNat % 16)]
def joined : Bs → Bs
 | a :: b :: r => UInt8.ofNat (a.toNat * 16 + b.toNat) :: joined r
 | _ => []
def pack (p : Bs) (leaf : Bool) : Bs × Int :=
 if fit p = false then ([], 3)
 else if p.length % 2 = 1 then (UInt8.ofNat ((if leaf then 32 else 0) + 16 + (p.headD 0).toNat) :: joined p.tail, 0)
 else (UInt8.ofNat (if leaf then 32 else 0) :: joined p, 0)
def unpack : Bs → Bs × Bool × Int
 | [] => ([], false, 3)
 | c :: r =>
  if 3 < c.toNat / 16 ∨ (c.toNat / 16 % 2 = 0 ∧ c.toNat % 16 ≠ 0) then ([], false, 3)
  else ((if c.toNat / 16 % 2 = 1 then UInt8.ofNat (c.toNat % 16) :: ofP r else ofP r), decide (2 ≤ c.toNat / 16), 0)
theorem ofP_snoc (l : Bs) (c : UInt8) : ofP (l ++ [c]) = ofP l ++ [UInt8.ofNat (c.toNat / 16), UInt8.ofNat (c.toNat % 16)] := by simp [ofP]
theorem ofP_len (l : Bs) : (ofP l).length = 2 * l.length := by
 induction l with
 | nil => rfl
 | cons c r ih =>
  have : ofP (c :: r) = [UInt8.ofNat (c.toNat / 16), UInt8.ofNat (c.toNat % 16)] ++ ofP r := by simp [ofP]
  rw [this, List.length_append, ih]; simp; omega
theorem fit_take (p : Bs) (i : Nat) (h : i < p.length) : fit (p.take (i + 1)) = (fit (p.take i) && decide (p[i].toNat ≤ 15)) := by
 unfold fit
 rw [List.take_succ_eq_append_getElem h, List.all_append]
 simp
theorem fit_at (p : Bs) (h : fit p = true) (i : Nat) (hi : i < p.length) : p[i].toNat ≤ 15 := by
 have := List.all_eq_true.1 h p[i] (List.getElem_mem hi)
 simpa using this
theorem fit_not (p : Bs) (i : Nat) (hi : i < p.length) (h : 15 < p[i].toNat) : fit p = false := by
 cases hf : fit p with
 | false => rfl
 | true => have := fit_at p hf i hi; omega
def digs : Nat → Nat → Bs
 | 0, _ => []
 | f + 1, n => if n = 0 then [] else digs f (n / 256) ++ [UInt8.ofNat (n % 256)]
theorem digs_step (f n : Nat) (h : 0 < n) : digs (f + 1) n = digs f (n / 256) ++ [UInt8.ofNat (n % 256)] := by
 rw [digs, if_neg (by omega)]
theorem digs_zero (f : Nat) : digs f 0 = [] := by cases f <;> rfl
def num (n : Nat) : Bs := UInt8.ofNat (digs 8 n).length :: digs 8 n
def text (s : Bs) : Bs := num s.length ++ s
def be (l : Bs) : Nat := l.foldl (fun a b => a * 256 + b.toNat) 0
theorem be_snoc (l : Bs) (c : UInt8) : be (l ++ [c]) = be l * 256 + c.toNat := by simp [be]
theorem foldl_be (l : Bs) : ∀ a : Nat, l.foldl (fun a b => a * 256 + b.toNat) a = a * 256 ^ l.length + be l := by
 induction l with
 | nil => intro a; simp [be]
 | cons c r ih =>
  intro a
  have h1 := ih (a * 256 + c.toNat)
  have h2 := ih c.toNat
  simp only [List.foldl_cons, be, Nat.zero_mul, Nat.zero_add, List.length_cons] at *
  rw [h1, h2, Nat.pow_succ, Nat.add_mul, Nat.mul_assoc, Nat.mul_comm 256]
  omega
theorem be_cons (c : UInt8) (r : Bs) : be (c :: r) = c.toNat * 256 ^ r.length + be r := by
 have := foldl_be r c.toNat
 simpa [be] using this
theorem be_lt (l : Bs) : be l < 256 ^ l.length := by
 induction l with
 | nil => simp [be]
 | cons c r ih =>
  rw [be_cons, List.length_cons, Nat.pow_succ]
  have := c.toNat_lt
  have h : c.toNat * 256 ^ r.length ≤ 255 * 256 ^ r.length := Nat.mul_le_mul_right _ (by omega)
  omega
theorem be_bound (b : Bs) (hb : b.length ≤ 8) (h8 : b.length = 8 → (b.headD 0).toNat ≤ 127) (i : Nat) (hi : i < b.length) : be (b.take i) < 36028797018963968 := by
 have h1 := be_lt (b.take i)
 have hl : (b.take i).length = i := by simp; omega
 rw [hl] at h1
 by_cases h7 : i ≤ 6
 ·have : 256 ^ i ≤ 256 ^ 6 := Nat.pow_le_pow_right (by decide) h7
  omega
 ·have hi7 : i = 7 := by omega
  subst hi7
  have hb8 : b.length = 8 := by omega
  match b, hb8, h8 hb8 with
  | c :: r, hr, hc =>
   simp only [List.headD_cons] at hc
   rw [List.take_succ_cons, be_cons]
   have h2 := be_lt (r.take 6)
   have h3 : (r.take 6).length = 6 := by simp at hr ⊢; omega
   rw [h3] at h2 ⊢
   have : c.toNat * 256 ^ 6 ≤ 127 * 256 ^ 6 := Nat.mul_le_mul_right _ hc
   omega
def take (s : Bs) : Nat × Bs × Int :=
 match s with
 | [] => (0, [], 20)
 | k :: r =>
  if 8 < k.toNat then (0, [], 3)
  else if r.length < k.toNat then (0, [], 20)
  else if (0 < k.toNat ∧ r.headD 0 = 0) ∨ (k.toNat = 8 ∧ 127 < (r.headD 0).toNat) then (0, [], 3)
  else (be (r.take k.toNat), r.drop k.toNat, 0)
def tx (s : Bs) (most : Int) : Bs × Bs × Int :=
 if (take s).2.2 ≠ 0 then ([], [], (take s).2.2)
 else if most < (take s).1 then ([], [], 2)
 else if (take s).2.1.length < (take s).1 then ([], [], 20)
 else ((take s).2.1.take (take s).1, (take s).2.1.drop (take s).1, 0)
def mBytes (s : Bs) (c n : Int) : Bs × Bs × Int :=
 if c ≠ 0 then ([], s, c) else if n < 0 then ([], s, 1) else if (s.length : Int) < n then ([], s, 20) else (s.take n.toNat, s.drop n.toNat, 0)
def mText (s : Bs) (c most : Int) : Bs × Bs × Int :=
 if c ≠ 0 then ([], s, c) else if (tx s most).2.2 ≠ 0 then ([], s, (tx s most).2.2) else ((tx s most).1, (tx s most).2.1, 0)
def mEnd (s : Bs) (c : Int) : Int := if c = 0 ∧ s ≠ [] then 3 else c
theorem take_le (s : Bs) (h : (take s).2.2 = 0) : (take s).1 < 9223372036854775808 ∧ ∃ k, 1 ≤ k ∧ k ≤ s.length ∧ (take s).2.1 = s.drop k := by
 cases s with
 | nil => exact absurd h (by decide)
 | cons k r =>
  unfold take at h ⊢
  simp only at h ⊢
  split at h
  ·exact absurd h (by decide)
  ·rename_i h8
   split at h
   ·exact absurd h (by decide)
   ·rename_i hr
    split at h
    ·exact absurd h (by decide)
    ·rename_i hz
     rw [if_neg h8, if_neg hr, if_neg hz]
     refine ⟨?_, k.toNat + 1, by omega, by simp; omega, by simp⟩
     have hl : (r.take k.toNat).length = k.toNat := by simp; omega
     by_cases h0 : k.toNat = 0
     ·simp [h0, be]
     ·have hb := be_bound (r.take k.toNat) (by omega) (fun h => by
       have h1 : (r.take k.toNat).headD 0 = r.headD 0 := by
        cases r with
        | nil => simp
        | cons a r =>
         obtain ⟨n, hn⟩ : ∃ n, k.toNat = n + 1 := ⟨k.toNat - 1, by omega⟩
         rw [hn]; rfl
       rw [h1]
       have := fun h' => hz (.inr ⟨by omega, h'⟩)
       omega) (k.toNat - 1) (by omega)
      have hs : be (r.take k.toNat) = be ((r.take k.toNat).take (k.toNat - 1)) * 256 + ((r.take k.toNat)[k.toNat - 1]'(by omega)).toNat := by
       have h2 : (r.take k.toNat).take (k.toNat - 1 + 1) = r.take k.toNat := List.take_of_length_le (by omega)
       rw [← be_snoc, ← List.take_succ_eq_append_getElem (by omega), h2]
      have := ((r.take k.toNat)[k.toNat - 1]'(by omega)).toNat_lt
      simp only [hs]
      omega
def kidsTo (kid : Nat → Bs) (n : Nat) : List Bs := ((List.range n).map kid).filter fun s => !s.isEmpty
def kidsF (kid : Nat → Bs) : List Bs := kidsTo kid 16
def sameL (a b : List Bs) : Bool := decide (a = b)
def kidL (kid : Nat → Bs) : List Bs := (List.range 16).map kid
def noKids (kid : Nat → Bs) : Bool := sameL (kidL kid) (List.replicate 16 [])
def oneKidX (kid : Nat → Bs) (x : Bs) : Bool := sameL (kidL kid) (x :: List.replicate 15 [])
def pathOk (p : Bs) (least : Int) : Bool := fit p && decide (least ≤ p.length) && decide (p.length ≤ 16)
def all32 (l : List Bs) : Bool := l.all fun s => decide (s.length = 32)
def chk (kind : Int) (path val : Bs) (kid : Nat → Bs) : Bool :=
 if kind = 1 then noKids kid && pathOk path 0 && !val.isEmpty && decide (val.length ≤ 32)
 else if kind = 2 then oneKidX kid (kid 0) && all32 [kid 0] && pathOk path 1 && val.isEmpty
 else if kind = 3 then path.isEmpty && all32 (kidsF kid) && decide (2 ≤ (kidsF kid).length + (if val.isEmpty then 0 else 1)) && decide (val.length ≤ 32)
 else false
def chkI (b : Bool) : Int := if b then 0 else 80
theorem kidsTo_succ (kid : Nat → Bs) (n : Nat) : kidsTo kid (n + 1) = kidsTo kid n ++ (if kid n = [] then [] else [kid n]) := by
 unfold kidsTo
 rw [List.range_succ, List.map_append, List.filter_append]
 congr 1
 simp [List.filter_cons]
theorem kidsTo_len (kid : Nat → Bs) (n : Nat) : (kidsTo kid n).length ≤ n := by
 unfold kidsTo
 refine Nat.le_trans (List.length_filter_le _ _) ?_
 simp
def bitv (kid : Nat → Bs) (i : Nat) : Nat := if kid i = [] then 0 else 1
def numTo (kid : Nat → Bs) : Nat → Nat
 | 0 => 0
 | n + 1 => numTo kid n * 2 + bitv kid n
def hiK (kid : Nat → Bs) : Nat := numTo kid 8
def loK (kid : Nat → Bs) : Nat := numTo kid 16 % 256
theorem numTo_lt (kid : Nat → Bs) (n : Nat) : numTo kid n < 2 ^ n := by
 induction n with
 | zero => simp [numTo]
 | succ n ih =>
  have : bitv kid n ≤ 1 := by unfold bitv; split <;> omega
  rw [numTo, Nat.pow_succ]; omega
theorem hiK_lt (kid : Nat → Bs) : hiK kid < 256 := numTo_lt kid 8
theorem loK_lt (kid : Nat → Bs) : loK kid < 256 := Nat.mod_lt _ (by decide)
theorem numTo_add (kid : Nat → Bs) (n m : Nat) : numTo kid (n + m) = numTo kid n * 2 ^ m + numTo (fun i => kid (n + i)) m := by
 induction m with
 | zero => simp [numTo]
 | succ m ih =>
  rw [← Nat.add_assoc, numTo, ih, numTo, Nat.pow_succ]
  have : bitv kid (n + m) = bitv (fun i => kid (n + i)) m := rfl
  rw [this, Nat.add_mul, Nat.mul_assoc]; omega
theorem numTo_16 (kid : Nat → Bs) : numTo kid 16 = hiK kid * 256 + loK kid := by
 have h := numTo_add kid 8 8
 have h2 := numTo_lt (fun i => kid (8 + i)) 8
 unfold hiK loK
 simp only [Nat.reduceAdd, Nat.reducePow] at h h2 ⊢
 omega
theorem numTo_shift (kid : Nat → Bs) (k : Nat) (hk : k < 16) (he : kid k ≠ []) : (numTo kid k * 2 ^ (16 - k)) ||| 2 ^ (15 - k) = numTo kid (k + 1) * 2 ^ (16 - (k + 1)) := by
 have h1 : 16 - k = (15 - k) + 1 := by omega
 have h2 : 16 - (k + 1) = 15 - k := by omega
 rw [h1, h2, numTo, bitv, if_neg he]
 have h3 := Nat.two_pow_add_eq_or_of_lt (i := (15 - k) + 1) (b := 2 ^ (15 - k)) (Nat.pow_lt_pow_right (by omega) (by omega)) (numTo kid k)
 rw [Nat.mul_comm (numTo kid k), ← h3, Nat.pow_succ, Nat.add_mul, Nat.one_mul, Nat.mul_comm (numTo kid k * 2), Nat.mul_assoc, Nat.mul_comm 2 (numTo kid k)]
theorem numTo_same (kid : Nat → Bs) (k : Nat) (hk : k < 16) (he : kid k = []) : numTo kid k * 2 ^ (16 - k) = numTo kid (k + 1) * 2 ^ (16 - (k + 1)) := by
 have h1 : 16 - k = (15 - k) + 1 := by omega
 have h2 : 16 - (k + 1) = 15 - k := by omega
 rw [h1, h2, numTo, bitv, if_pos he, Nat.pow_succ, Nat.add_zero, Nat.mul_assoc, Nat.mul_comm 2]
theorem numTo_le (kid : Nat → Bs) (k : Nat) (hk : k ≤ 16) : numTo kid k * 2 ^ (16 - k) < 65536 := by
 have h := numTo_lt kid k
 have h2 : 2 ^ k * 2 ^ (16 - k) = 65536 := by rw [← Nat.pow_add, Nat.add_sub_cancel' hk]
 rw [← h2]
 exact Nat.mul_lt_mul_of_pos_right h (Nat.two_pow_pos _)
def enc (kind : Int) (path val : Bs) (kid : Nat → Bs) : Bs :=
 if kind = 3 then [3, UInt8.ofNat (hiK kid), UInt8.ofNat (loK kid)] ++ (kidsF kid).flatten ++ text val
 else if kind = 1 then 1 :: (text (pack path true).1 ++ text val)
 else 2 :: (text (pack path false).1 ++ kid 0)
def encR (kind : Int) (path val : Bs) (kid : Nat → Bs) : Bs × Int := if chk kind path val kid then (enc kind path val kid, 0) else ([], 80)
theorem joined_len' (s : Bs) : (joined s).length ≤ s.length := by
 induction s using joined.induct with
 | case1 a b r ih => simp [joined] at ih ⊢; omega
 | case2 s h => 
  rw [joined.eq_def]
  split
  ·rename_i a b r; exact absurd rfl (h a b r)
  ·simp
theorem pack_len (p : Bs) (leaf : Bool) : (pack p leaf).1.length ≤ p.length + 1 := by
 unfold pack
 have h1 := joined_len' p
 have h2 := joined_len' p.tail
 have h3 : p.tail.length ≤ p.length := by simp
 split
 ·simp
 ·split
  ·simp at *; omega
  ·simp; omega
theorem text_len (s : Bs) : (text s).length ≤ s.length + 9 := by
 have : ∀ f m, (digs f m).length ≤ f := by
  intro f
  induction f with
  | zero => intro m; simp [digs]
  | succ f ih =>
   intro m
   unfold digs
   split
   ·simp
   ·have := ih (m / 256); simp; omega
 have := this 8 s.length
 simp [text, num]; omega
def upd (kid : Nat → Bs) (k : Nat) (x : Bs) : Nat → Bs := fun i => if i = k then x else kid i
def noK : Nat → Bs := fun _ => []
def rdKids (set : Nat) (s : Bs) (c : Int) : Nat → (Nat → Bs) × Bs × Int
 | 0 => (noK, s, c)
 | k + 1 =>
  if set / 2 ^ (15 - k) % 2 = 1 then (upd (rdKids set s c k).1 k (mBytes (rdKids set s c k).2.1 (rdKids set s c k).2.2 32).1, (mBytes (rdKids set s c k).2.1 (rdKids set s c k).2.2 32).2)
  else rdKids set s c k
theorem mText_len (s : Bs) (c most : Int) (h0 : 0 ≤ most) : ((mText s c most).1.length : Int) ≤ most := by
 unfold mText
 split
 ·simpa using h0
 ·split
  ·simpa using h0
  ·unfold tx
   split
   ·simpa using h0
   ·split
    ·simpa using h0
    ·split
     ·simpa using h0
     ·simp; omega
structure Nd where
 kind : Int
 path : Bs
 val : Bs
 kid : Nat → Bs
def ndZ : Nd := ⟨0, [], [], noK⟩
def rdB (set : Nat) (r : Bs) : Nd × Bs × Int :=
 (⟨3, [], (mText (rdKids set r 0 16).2.1 (rdKids set r 0 16).2.2 32).1, (rdKids set r 0 16).1⟩, (mText (rdKids set r 0 16).2.1 (rdKids set r 0 16).2.2 32).2)
def rdL (r : Bs) (c : Int) : Nd × Bs × Int :=
 (⟨1, (unpack (mText r c 16).1).1, (mText (mText r c 16).2.1 (mText r c 16).2.2 32).1, noK⟩, (mText (mText r c 16).2.1 (mText r c 16).2.2 32).2)
def rdE (k : Int) (r : Bs) (c : Int) : Nd × Bs × Int :=
 (⟨k, (unpack (mText r c 16).1).1, [], upd noK 0 (mBytes (mText r c 16).2.1 (mText r c 16).2.2 32).1⟩, (mBytes (mText r c 16).2.1 (mText r c 16).2.2 32).2)
def decEnd (x : Nd × Bs × Int) (f : Bool) : Nd × Int :=
 if mEnd x.2.1 x.2.2 = 0 ∧ f = true ∧ chk x.1.kind x.1.path x.1.val x.1.kid = true then (x.1, 0) else (ndZ, 80)
def dec : Bs → Nd × Int
 | [] => (ndZ, 80)
 | k :: r =>
  if k = 3 then match r with
   | a :: b :: r' => decEnd (rdB (a.toNat * 256 + b.toNat) r') true
   | _ => (ndZ, 80)
  else if k = 1 then decEnd (rdL r 0) (decide ((unpack (mText r 0 16).1).2.2 = 0) && (unpack (mText r 0 16).1).2.1)
  else decEnd (rdE k.toNat r 0) (decide ((unpack (mText r 0 16).1).2.2 = 0) && !(unpack (mText r 0 16).1).2.1)
theorem unpack_len (s : Bs) : (unpack s).1.length ≤ 2 * s.length := by
 cases s with
 | nil => simp [unpack]
 | cons c r =>
  have h := ofP_len r
  by_cases h1 : 3 < c.toNat / 16 ∨ (c.toNat / 16 % 2 = 0 ∧ c.toNat % 16 ≠ 0)
  ·rw [unpack, if_pos h1]; simp
  ·rw [unpack, if_neg h1]
   by_cases h2 : c.toNat / 16 % 2 = 1
   ·simp [h2, h]; omega
   ·simp [h2, h]; omega
def fineR (kind : Int) (path val : Bs) (kid : Nat → Bs) : Bool :=
 if all32 (kidsF kid) = false then false
 else if fit path = false ∨ 16 < path.length ∨ 32 < val.length then false
 else if kind = 1 then decide ((kidsF kid).length = 0) && !val.isEmpty
 else if kind = 2 then decide ((kidsF kid).length = 1) && !(kid 0).isEmpty && decide (1 ≤ path.length) && val.isEmpty
 else if kind = 3 then decide (path.length = 0) && (decide (2 ≤ (kidsF kid).length) || decide ((kidsF kid).length = 1) && !val.isEmpty)
 else false
theorem flat_succ (kid : Nat → Bs) (k : Nat) : (kidsTo kid (k + 1)).flatten = (kidsTo kid k).flatten ++ kid k := by
 rw [kidsTo_succ, List.flatten_append]
 by_cases h : kid k = []
 ·simp [h]
 ·simp [h]
end Pl
end Go.Proofs.YtjppbomngnomhaaGreatDoor
namespace Go.Proofs.YtjppbomngnomhaaGreatDoor
open Go.RowKit
theorem wp_tail {P : Program} {id : Nat} {Q : Exit → Act → World → Prop} {a : Act} {w : World} {l : List Oper} (n : Nat) (hm : P.follows .mixedOrders = true) (hB : Region.lexTailB .any l.toArray n = true)
  (h : ∀ w2, w2 = w.drew → wpStill P l.toArray w2 (fun a' => wpList P l.toArray Q (l.drop n) a' w2) (l.take n) a) : (Code.region id l.toArray true).wp P Q a w :=
 wp_region_still_tail n hm hB (h _ rfl)
structure RowT (P : Program) (T : TypeId) (n : Nat) : Prop where
 und : ∃ d, P.underlying T = some d ∧ d.isRow = true
 size : (P.info? T).map (·.size) = some n
theorem RowT.mk' {P : Program} {T : TypeId} {n : Nat} {d : TypeDesc} (h : P.underlying T = some d) (hd : d.isRow = true) (hs : (P.info? T).map (·.size) = some n) : RowT P T n := ⟨⟨d, h, hd⟩, hs⟩
theorem Blk.range {w : World} {b : Nat} {vs : List Value} (h : Blk w b vs.toArray) : w.rangeAt b 0 vs := by
 intro j v hv
 rw [Nat.zero_add, h.cell j]
 simpa using hv
theorem Mod.setCellsL (b : Nat) : ∀ (vs : List Value) (o : Nat) (w : World), Mod [b] w (w.setCells b o vs)
 | [], _, w => Mod.refl _ _
 | v :: r, o, w => by
  rw [World.setCells]
  exact ((Mod.refl _ w).setCell (.inl (by simp)) v).trans (Mod.setCellsL b r (o + 1) _)
section
variable {P : Program} {T : TypeId} {n : Nat} {ops : Array Oper} {rest : List Oper} {op : Oper} {a : Act} {w : World} {Q : Exit → Act → World → Prop}
theorem wpList_rowLoad (hT : RowT P T n) (hgd : op.guard = none) (x : Operand) (ho : op.op = .load T x) {b : Nat} (hx : a.eval x = .pointer (some ⟨b, 0, none⟩)) {vs : List Value} (hl : vs.length = n) (hB : Blk w b vs.toArray)
  (h : wpList P ops Q rest (a.put op.dst (.agg vs.toArray)) w) : wpList P ops Q (op :: rest) a w := by
 obtain ⟨⟨d, h1, h2⟩, h3⟩ := hT
 exact wpList_load_mid hgd T x ho b 0 hx vs d hB.range h1 h2 (by rw [hl]; exact h3) h
theorem wpList_rowStore (hT : RowT P T n) (hgd : op.guard = none) (hd : op.dst = none) (x y : Operand) (ho : op.op = .store T x y) {b : Nat} (hx : a.eval x = .pointer (some ⟨b, 0, none⟩)) {vs : List Value} (hy : a.eval y = .agg vs.toArray) (hl : vs.length = n) (h1 : ∀ v ∈ vs, v.oneCell' = true)
  {us : List Value} (hlu : us.length = n) (hB : Blk w b us.toArray)
  (h : ∀ w', Blk w' b vs.toArray → Mod [b] w w' → wpList P ops Q rest a w') : wpList P ops Q (op :: rest) a w := by
 obtain ⟨_, h3⟩ := hT
 have ht : w.there b 0 vs.length := fun j hj => by
  rw [Nat.zero_add, hB.cell, hB.froz]
  simp; omega
 refine wpList_store_mid hgd T x y ho b 0 _ hx hy (by simpa using ht) (by simp [hl, h3]) (all_oneCell_toArray h1) ?_
 rw [hd]
 refine h _ ⟨fun o => ?_, fun o => by rw [World.frozen?_setCells]; exact hB.froz o, ?_⟩ (Mod.setCellsL b _ 0 w)
 ·by_cases ho : o < vs.length
  ·have := World.cell?_setCells_in b vs 0 w (fun i hi => (ht i hi).1) o ho
   rw [Nat.zero_add] at this
   simp only [List.getElem?_toArray]
   rw [List.getElem?_eq_getElem ho]
   exact this
  ·rw [World.cell?_setCells_out b _ 0 w _ (fun _ _ => .inr (by simp at ho ⊢; omega)), hB.cell]
   simp at ho ⊢
   rw [List.getElem?_eq_none (by omega), List.getElem?_eq_none (by omega)]
 ·exact Nat.lt_of_lt_of_le hB.lt (Mod.setCellsL b _ 0 w).size
theorem row_loadVar (hT : RowT P T n) (w : World) {b : Nat} {vs : List Value} (hl : vs.length = n) (hB : Blk w b vs.toArray) : (loadVar T ⟨b, 0, none⟩).run P w = .ok (.agg vs.toArray) w := by
 obtain ⟨⟨d, h1, h2⟩, h3⟩ := hT
 exact run_loadVar_mid w b 0 T vs d hB.range h1 h2 (by rw [hl]; exact h3)
end
theorem Below.name {B : Nat} {a w : World} (_ : Below B a w) : ∃ w' : World, w' = w := ⟨w, rfl⟩
theorem results_cell1 {P : Program} {fn : Func} {a : Nat} {t : TypeId} (h : fn.results = #[.cell a t]) (tmps : Array Value) (w : World) (p : Addr) (v : Value) (hp : tmps.getD a undef = .pointer (some p)) (hl : (loadVar t p).run P w = .ok v w) :
  (results fn tmps).run P w = .ok v w := by
 unfold results
 rw [h]
 rw [Array.getD_eq_getD_getElem?] at hp
 simp [hp, asAddr, hl, Sem.run_bind]
theorem quietD {P : Program} {f : FuncId} {args : Array Value} {w : World} {a n : Nat} {v : Value} (h : ∀ W : World, Calls P f args W fun e w' => e = .returned v ∧ W = w') :
  Calls P f args (w.drewN (a + n)) fun e w'' => e = .returned v ∧ ∃ k, w'' = w.drewN (a + k) :=
 (h _).mono fun _ _ ⟨he, hw⟩ => ⟨he, n, hw.symm⟩
section
variable {P : Program} {ops : Array Oper} {C : World → Prop} {Q : Act → Prop} {o : Oper} {rest : List Oper} {a : Act}
theorem wpQ_skip (hw : Region.wanted o (yielded ops a.tmps) = false) (h : wpQuiet P ops C Q rest (a.put o.dst undef)) : wpQuiet P ops C Q (o :: rest) a := by
 unfold wpQuiet
 rw [if_neg (by rw [hw]; simp)]
 exact h
theorem wpQ_load (hw : Region.wanted o (yielded ops a.tmps) = true) (u : Value) (hv : ∀ w, C w → (execOp a.eval o).run P w = .ok (.value u) w) (h : wpQuiet P ops C Q rest (a.put o.dst u)) : wpQuiet P ops C Q (o :: rest) a := by
 unfold wpQuiet
 rw [if_pos hw]
 exact ⟨u, fun w hC => by unfold Oper.quietAt; rw [hv w hC]; exact ⟨rfl, rfl⟩, h⟩
theorem wpQ_pure (hw : Region.wanted o (yielded ops a.tmps) = true) (u : Value) (hv : ∀ w, (execOp a.eval o).run P w = .ok (.value u) w) (h : wpQuiet P ops C Q rest (a.put o.dst u)) : wpQuiet P ops C Q (o :: rest) a :=
 wpQ_load hw u (fun w _ => hv w) h
end
section
variable {P : Program} {ops : Array Oper} {S : World → Prop} {Q : Exit → Act → World → Prop} {fuel : Nat} {listed : Array Bool} {a : Act} {w : World} {oi : Oper}
theorem wpH_pure (i : Nat) (u : Value) (hi : ops[i]? = some oi) (hs : Region.noSelect ops = true) (hf : Region.free .any ops listed i = true) (hr : (Region.ready .any ops listed).contains i = true)
  (hw : Region.wanted oi (yielded ops a.tmps) = true) (hS : S w) (hQ : ∀ c a w, Q (.panic c) (a.put oi.dst u) w → Q (.panic c) a w) (hv : ∀ w, (execOp a.eval oi).run P w = .ok (.value u) w)
  (h : wpAnyH P .any ops Q S fuel (listed.setIfInBounds i true) (a.put oi.dst u) w) : wpAnyH P .any ops Q S (fuel + 1) listed a w :=
 wpAnyH_take hi hs hf hr hQ (.inl ⟨hw, fun w _ => hv w⟩) hS h
theorem wpH_skip (i : Nat) (hi : ops[i]? = some oi) (hs : Region.noSelect ops = true) (hf : Region.free .any ops listed i = true) (hr : (Region.ready .any ops listed).contains i = true)
  (hw : Region.wanted oi (yielded ops a.tmps) = false) (hS : S w) (hQ : ∀ c a w, Q (.panic c) (a.put oi.dst undef) w → Q (.panic c) a w)
  (h : wpAnyH P .any ops Q S fuel (listed.setIfInBounds i true) (a.put oi.dst undef) w) : wpAnyH P .any ops Q S (fuel + 1) listed a w :=
 wpAnyH_take hi hs hf hr hQ (.inr ⟨hw, rfl⟩) hS h
theorem wpH_load (i : Nat) (u : Value) (hi : ops[i]? = some oi) (hs : Region.noSelect ops = true) (hf : Region.free .any ops listed i = true) (hr : (Region.ready .any ops listed).contains i = true)
  (hw : Region.wanted oi (yielded ops a.tmps) = true) (hS : S w) (hQ : ∀ c a w, Q (.panic c) (a.put oi.dst u) w → Q (.panic c) a w) (hv : ∀ w, S w → (execOp a.eval oi).run P w = .ok (.value u) w)
  (h : wpAnyH P .any ops Q S fuel (listed.setIfInBounds i true) (a.put oi.dst u) w) : wpAnyH P .any ops Q S (fuel + 1) listed a w :=
 wpAnyH_take hi hs hf hr hQ (.inl ⟨hw, hv⟩) hS h
theorem wpH_call (i : Nat) (hi : ops[i]? = some oi) (hr : Region.ready .any ops listed = [i]) (hw : Region.wanted oi (yielded ops a.tmps) = true) {f : FuncId} {args : Array Value} {R : Ending → World → Prop} (hc : Calls P f args w R)
  (hv : (execOp a.eval oi).run P w = .ok (.enter f args) w)
  (h : ∀ e w', R e w' → ∃ v, e = .returned v ∧ S w' ∧ wpAnyH P .any ops Q S fuel (listed.setIfInBounds i true) (a.put oi.dst v) w') : wpAnyH P .any ops Q S (fuel + 1) listed a w := by
 refine wpAnyH_all hr (by simp) (fun j hj => ?_)
 obtain rfl : j = i := by simpa using hj
 unfold wpOp
 simp only [hi, hw, if_true]
 refine .inl ?_
 unfold Oper.wp
 rw [hv, Oper.upon_enter]
 refine hc.mono fun e w' hR => ?_
 obtain ⟨v, rfl, h1, h2⟩ := h e w' hR
 exact ⟨h1, h2⟩
theorem wpH_op (i : Nat) (hi : ops[i]? = some oi) (hr : Region.ready .any ops listed = [i]) (hw : Region.wanted oi (yielded ops a.tmps) = true)
  (h : oi.wp P a w (fun a' w' => S w' ∧ wpAnyH P .any ops Q S fuel (listed.setIfInBounds i true) a' w') Q) : wpAnyH P .any ops Q S (fuel + 1) listed a w := by
 refine wpAnyH_all hr (by simp) (fun j hj => ?_)
 obtain rfl : j = i := by simpa using hj
 unfold wpOp
 simp only [hi, hw, if_true]
 exact .inl h
end
theorem wpH_start {P : Program} {id : Nat} {ops : Array Oper} {Q : Exit → Act → World → Prop} {a : Act} {w : World} (hm : P.follows .mixedOrders = true)
  (h : Below w.heap.size w w.drew → wpAnyH P .any ops Q (Below w.heap.size w) ops.size (Array.replicate ops.size false) a w.drew) : (Code.region id ops true).wp P Q a w :=
 wp_region_held_drew hm (Below.refl _ _).drew h
theorem wpH_startM {P : Program} {id : Nat} {ops : Array Oper} {Q : Exit → Act → World → Prop} {a : Act} {w : World} (l : List Nat) (hm : P.follows .mixedOrders = true)
  (h : Mod l w w.drew → wpAnyH P .any ops Q (Mod l w) ops.size (Array.replicate ops.size false) a w.drew) : (Code.region id ops true).wp P Q a w :=
 wp_region_held_drew hm (Mod.refl _ _).drew h
theorem pna (a : Act) (d : Nat) (v : Value) : a.put (some d) v = { a with tmps := a.tmps.setIfInBounds d v } := rfl
theorem pnb (a : Act) (v : Value) : a.put none v = a := rfl
theorem pnc {α : Type} (xs : List α) (i : Nat) (x : α) : xs.toArray.setIfInBounds i x = (xs.set i x).toArray := by simp
theorem pnd {α : Type} (y : α) (r : List α) (x : α) : (y :: r).set 0 x = x :: r := rfl
theorem pne {α : Type} (y : α) (r : List α) (i : Nat) (x : α) : (y :: r).set (i + 1) x = y :: r.set i x := rfl
abbrev ztL : List Value := [.int .i64 (0), .int .i64 (0), .int .i64 (0), .bool false, .string ⟨List.toArray ([])⟩, .string ⟨List.toArray ([])⟩, .string ⟨List.toArray ([])⟩, .string ⟨List.toArray ([])⟩, .string ⟨List.toArray ([])⟩, .string ⟨List.toArray ([])⟩, .slice none 0 0, .slice none 0 0, .int .i64 (0)]
abbrev ztA : Array Value := #[.int .i64 (0), .int .i64 (0), .int .i64 (0), .bool false, .string ⟨List.toArray ([])⟩, .string ⟨List.toArray ([])⟩, .string ⟨List.toArray ([])⟩, .string ⟨List.toArray ([])⟩, .string ⟨List.toArray ([])⟩, .string ⟨List.toArray ([])⟩, .slice none 0 0, .slice none 0 0, .int .i64 (0)]
def bareO (o : Oper) : Oper := { o with pos := "", after := #[] }
theorem exec_bare (r : Operand → Value) (o : Oper) : execOp r (bareO o) = execOp r o := rfl
theorem bare_at {ops : Array Oper} {i : Nat} {oi : Oper} (h : (ops[i]?).map bareO = some oi) : ∃ o, ops[i]? = some o ∧ bareO o = oi := by
 cases hh : ops[i]? with
 | none => rw [hh] at h; cases h
 | some o => rw [hh] at h; injection h with h; exact ⟨o, rfl, h⟩
section
variable {P : Program} {ops : Array Oper} {S : World → Prop} {Q : Exit → Act → World → Prop} {fuel : Nat} {listed : Array Bool} {a : Act} {w : World}
theorem hP (i : Nat) (u : Value) (oi : Oper) (hS : S w) (hv : ∀ w, (execOp a.eval oi).run P w = .ok (.value u) w)
  (h : wpAnyH P .any ops Q S fuel (listed.setIfInBounds i true) (a.put oi.dst u) w) (hi : (ops[i]?).map bareO = some oi := by rfl) (hs : Region.noSelect ops = true := by kernel_rfl) (hf : Region.free .any ops listed i = true := by kernel_rfl) (hr : (Region.ready .any ops listed).contains i = true := by kernel_rfl)
  (hw : Region.wanted oi (yielded ops a.tmps) = true := by rfl) (hQ : ∀ c a w, Q (.panic c) (a.put oi.dst u) w → Q (.panic c) a w := by exact fun _ _ _ h => h) : wpAnyH P .any ops Q S (fuel + 1) listed a w := by
 obtain ⟨o, ho, rfl⟩ := bare_at hi
 exact wpH_pure i u ho hs hf hr hw hS hQ hv h
theorem qP {C : World → Prop} {R : Act → Prop} {o : Oper} {rest : List Oper} (u : Value) (hv : ∀ w, (execOp a.eval o).run P w = .ok (.value u) w) (h : wpQuiet P ops C R rest (a.put o.dst u)) (hw : Region.wanted o (yielded ops a.tmps) = true := by rfl) : wpQuiet P ops C R (o :: rest) a := wpQ_pure hw u hv h
theorem qN {C : World → Prop} {R : Act → Prop} {o : Oper} {rest : List Oper} (h : wpQuiet P ops C R rest (a.put o.dst undef)) (hw : Region.wanted o (yielded ops a.tmps) = false := by first | rfl | (go_simp; rfl)) : wpQuiet P ops C R (o :: rest) a := wpQ_skip hw h
theorem hN (i : Nat) (oi : Oper) (hS : S w) (h : wpAnyH P .any ops Q S fuel (listed.setIfInBounds i true) (a.put oi.dst undef) w) (hi : (ops[i]?).map bareO = some oi := by rfl) (hs : Region.noSelect ops = true := by kernel_rfl) (hf : Region.free .any ops listed i = true := by kernel_rfl) (hr : (Region.ready .any ops listed).contains i = true := by kernel_rfl)
  (hw : Region.wanted oi (yielded ops a.tmps) = false := by rfl) (hQ : ∀ c a w, Q (.panic c) (a.put oi.dst undef) w → Q (.panic c) a w := by exact fun _ _ _ h => h) : wpAnyH P .any ops Q S (fuel + 1) listed a w := by
 obtain ⟨o, ho, rfl⟩ := bare_at hi
 exact wpH_skip i ho hs hf hr hw hS hQ h
end
end Go.Proofs.YtjppbomngnomhaaGreatDoor
namespace Go.Proofs.YtjppbomngnomhaaGreatDoor
open Go.RowKit Pl
def SS (w : World) (v : Value) (l : List Bs) : Prop :=
 ∃ a cap, v = .slice a l.length cap ∧ l.length ≤ cap ∧ cap ≤ maxLen ∧ (l ≠ [] → ∃ g off, a = some ⟨g, off, none⟩ ∧ g < w.heap.size ∧ SSrc w g off l)
theorem SS.nil (w : World) : SS w (.slice none 0 0) [] := ⟨none, 0, rfl, Nat.le_refl _, by unfold maxLen; omega, fun h => absurd rfl h⟩
theorem SS.of {w : World} {g off cap : Nat} {l : List Bs} (h1 : l.length ≤ cap) (h2 : cap ≤ maxLen) (h3 : g < w.heap.size) (h4 : SSrc w g off l) : SS w (.slice (some ⟨g, off, none⟩) l.length cap) l :=
 ⟨_, cap, rfl, h1, h2, fun _ => ⟨g, off, rfl, h3, h4⟩⟩
theorem SRow.ss {w : World} {base : Nat} {v : Value} {l : List Bs} (h : SRow w base v l) : SS w v l := by
 rcases h.cells with ⟨rfl, rfl⟩ | ⟨g, cap, rfl, h2, h3, h4, h5, h6, h7⟩
 ·exact SS.nil w
 ·exact SS.of h4 h5 h3 (fun i hi => by rw [Nat.zero_add]; exact h6 i hi)
theorem SS.keep {W w : World} {v : Value} {l : List Bs} (h : SS W v l) (hb : Below W.heap.size W w) : SS w v l := by
 obtain ⟨a, cap, h1, h2, h3, h4⟩ := h
 refine ⟨a, cap, h1, h2, h3, fun hl => ?_⟩
 obtain ⟨g, off, e, hg, hc⟩ := h4 hl
 exact ⟨g, off, e, Nat.lt_of_lt_of_le hg hb.size, fun i hi => (hb.cell (p := ⟨g, off + i, none⟩) hg).trans (hc i hi)⟩
theorem SS.form {w : World} {v : Value} {l : List Bs} (h : SS w v l) : ∃ a c, v = .slice a l.length c := by
 obtain ⟨a, cap, h1, _⟩ := h
 exact ⟨a, cap, h1⟩
theorem SRow.keep {W w : World} {b : Nat} {v : Value} {l : List Bs} (h : SRow W b v l) (hb : Below W.heap.size W w) : SRow w b v l := by
 refine h.kept (fun k hk => hb.block k ?_)
 rcases h.cells with ⟨rfl, _⟩ | ⟨g, cap, rfl, _, hg, _⟩
 ·cases hk
 ·cases hk; exact hg
theorem SS.at' {w : World} {a : Option Addr} {c : Nat} {l : List Bs} (h : SS w (.slice a l.length c) l) (i : Nat) (hi : i < l.length) :
  ∃ g off, a = some ⟨g, off, none⟩ ∧ g < w.heap.size ∧ w.cell? ⟨g, off + i, none⟩ = some (.string ⟨List.toArray (l.getD i [])⟩) := by
 obtain ⟨a', cap, h1, _, _, h5⟩ := h
 injection h1 with h1 _ _
 obtain ⟨g, off, e, hg, hc⟩ := h5 (by intro e; rw [e] at hi; simp at hi)
 exact ⟨g, off, h1.trans e, hg, hc i hi⟩
theorem SRow.low {w : World} {b c : Nat} {v : Value} {l : List Bs} (h : SRow w b v l) (hc : c ≤ b) : SRow w c v l := by
 refine ⟨h.1, h.2.imp id ?_⟩
 rintro ⟨g, cap, cur, hv, h1, h2⟩
 exact ⟨g, cap, cur, hv, Nat.le_trans hc h1, h2⟩
theorem Mod.grow {l : List Nat} {a w w' : World} (h : Mod l a w) (k : Below a.heap.size w w') : Mod l a w' :=
 ⟨k.os.trans h.os, k.tape.trans h.tape, k.output.trans h.output, Nat.le_trans h.size k.size, fun i hi hn => (k.block i hi).trans (h.block i hi hn)⟩
end Go.Proofs.YtjppbomngnomhaaGreatDoor
