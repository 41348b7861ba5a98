/- Hash, Sum, Dig, NodeD, Knot. -/
import Derived.Deep.OwnRows
import Derived.Test.YtjppbomngnomhaaGreatDoorMv5
set_option linter.unnecessarySimpa false
set_option linter.unusedSimpArgs false
set_option linter.unusedVariables false
set_option maxRecDepth 100000
set_option maxHeartbeats 32000000
namespace Go.Proofs.YtjppbomngnomhaaGreatDoor
open Go.RowKit
def blkB (l : List UInt8) (n : Nat) : Nat → Int := fun i => (((l.drop (64 * n)).getD i 0).toNat : Int)
def blkN (g : Nat → Int) (l : List UInt8) : Nat → Nat → Int
 | 0 => g
 | n + 1 => blk (blkN g l n) (blkB l n)
theorem blkN_bd (g : Nat → Int) (l : List UInt8) (hg : ∀ i, W32 (g i)) (n : Nat) : ∀ i, W32 (blkN g l n i) := by
 cases n with
 | zero => exact hg
 | succ n => exact fun i => blk_bd _ _ i
theorem blkB_bd (l : List UInt8) (n i : Nat) : 0 ≤ blkB l n i ∧ blkB l n i < 256 := by
 unfold blkB
 have := ((l.drop (64 * n)).getD i 0).toNat_lt
 omega
theorem bytes_range {w : World} {p off : Nat} {m : List UInt8} (h : BSrc w p off m) (hm : 64 ≤ m.length) (f : Nat → Int) (hf : ∀ i, i < 64 → f i = ((m.getD i 0).toNat : Int)) : w.rangeAt p off (arb 64 f) := by
 intro j v hv
 have hj : j < 64 := by
  rcases Nat.lt_or_ge j 64 with hlt | hge
  ·exact hlt
  ·rw [List.getElem?_eq_none (by simp; omega)] at hv; cases hv
 have h2 := arb_at 64 f j hj
 rw [h j (by omega)]
 rw [List.getElem?_toArray] at h2
 rw [h2] at hv
 rw [← hf j hj]
 exact hv
theorem wpStill_rowLoadAt {P : Program} {T : TypeId} {n : Nat} {ops : Array Oper} {rest : List Oper} {op : Oper} {a : Act} {w : World} {Q : Act → Prop} (hT : RowT P T n) (hgd : op.guard = none) (x : Operand) (ho : op.op = .load T x) {b off : Nat}
  (hx : a.eval x = .pointer (some ⟨b, off, none⟩)) {vs : List Value} (hl : vs.length = n) (hr : w.rangeAt b off vs) (h : wpStill P ops w Q rest (a.put op.dst (.agg vs.toArray))) : wpStill P ops w Q (op :: rest) a := by
 obtain ⟨⟨d, h1, h2⟩, h3⟩ := hT
 unfold wpStill
 rw [if_pos (by simp [Region.wanted, hgd])]
 unfold Oper.still execOp
 simp only [ho, hx, Instr.loadAt, Instr.sureAddr, Sem.run_bind, Sem.run_pure, Result.andThen_ok, run_loadVar_mid w b off T vs d hr h1 h2 (by rw [hl]; exact h3)]
 exact ⟨rfl, h⟩
theorem wpStill_arrayAt {ops : Array Oper} {rest : List Oper} {op : Oper} {a : Act} {w : World} {Q : Act → Prop} (hgd : op.guard = none) (x : Operand) (ho : op.op = .sliceToArrayPointer 120 x) {ad : Option Addr} {n c : Nat}
  (hx : a.eval x = .slice ad n c) (hn : 64 ≤ n) (h : wpStill Tryz.prog ops w Q rest (a.put op.dst (.pointer ad))) : wpStill Tryz.prog ops w Q (op :: rest) a := by
 unfold wpStill
 rw [if_pos (by simp [Region.wanted, hgd])]
 unfold Oper.still execOp
 simp only [ho, hx, Instr.arrayAt, Sem.run_bind, Result.andThen_ok, run_underlying Tryz.underlying120]
 rw [if_neg (by omega)]
 simp only [Sem.run_pure, Result.andThen_ok]
 exact ⟨rfl, h⟩
def BSo (B : Nat) (w : World) (v : Value) (l : List UInt8) : Prop :=
 (v = .slice none 0 0 ∧ l = []) ∨ ∃ g off cap, v = .slice (some ⟨g, off, none⟩) l.length cap ∧ l.length ≤ cap ∧ cap ≤ maxLen ∧ g < B ∧ BSrc w g off l
theorem BSo.bs {B : Nat} {w : World} {v : Value} {l : List UInt8} (h : BSo B w v l) (hB : B ≤ w.heap.size) : BS w v l :=
 h.imp id fun ⟨g, off, cap, h1, h2, h3, h4, h5⟩ => ⟨g, off, cap, h1, h2, h3, Nat.lt_of_lt_of_le h4 hB, h5⟩
theorem BSo.keep {B : Nat} {W w : World} {v : Value} {l : List UInt8} (h : BSo B W v l) (hb : Below B W w) : BSo B w v l :=
 h.imp id fun ⟨g, off, cap, h1, h2, h3, h4, h5⟩ => ⟨g, off, cap, h1, h2, h3, h4, fun i hi => (hb.cell (p := ⟨g, off + i, none⟩) h4).trans (h5 i hi)⟩
@[go_sem, simp] theorem arr_get (n : Nat) (f : Nat → Int) (i : Nat) (h : i < n) : (arr n f)[i]? = some (.int .u32 (f i)) := by
 have := arr_at n f i h
 rwa [List.getElem?_toArray] at this
@[go_sem, simp] theorem arr_getE (n : Nat) (f : Nat → Int) (i : Nat) (h : i < (arr n f).length) : (arr n f)[i]'h = .int .u32 (f i) := by simp [arr]
theorem arr8_filled (z f : Nat → Int) : arr 8 (updI (updI (updI (updI (updI (updI (updI (updI z 0 (f 0)) 1 (f 1)) 2 (f 2)) 3 (f 3)) 4 (f 4)) 5 (f 5)) 6 (f 6)) 7 (f 7)) = arr 8 f := by
 apply arr_ext
 intro i hi
 have hc : i = 0 ∨ i = 1 ∨ i = 2 ∨ i = 3 ∨ i = 4 ∨ i = 5 ∨ i = 6 ∨ i = 7 := by omega
 rcases hc with rfl | rfl | rfl | rfl | rfl | rfl | rfl | rfl <;> rfl
theorem results_cellT {P : Program} {fn : Func} {a b : Nat} {t : TypeId} (h : fn.results = #[.cell a t, .tmp b]) (tmps : Array Value) (w : World) (p : Addr) (v : Value) (hp : tmps.getD a undef = .pointer (some p)) (hl : (loadVar t p).run P w = .ok v w) :
  (results fn tmps).run P w = .ok (.tuple #[v, tmps.getD b undef]) w := by
 unfold results
 rw [h]
 rw [Array.getD_eq_getD_getElem?] at hp
 simp [hp, asAddr, hl, Sem.run_bind]
def lenS : Value → Nat
 | .slice _ n _ => n
 | _ => 0
def BlocksPost (W : World) (g : Nat → Int) (l : List UInt8) (e : Ending) (w' : World) : Prop :=
 ∃ v', e = .returned (.tuple #[.agg (arr 8 (blkN g l (l.length / 64))).toArray, v']) ∧ BRow w' W.heap.size v' (l.drop (64 * (l.length / 64))) ∧ Below W.heap.size W w'
theorem blocks_any (g : Nat → Int) (hg : ∀ i, W32 (g i)) (v : Value) (l : List UInt8) (hl : l.length ≤ 1099511627776) (w : World) (hv : BS w v l) (hk0 : KT w) :
  Calls Tryz.prog 124 #[.agg (arr 8 g).toArray, v] w (BlocksPost w g l) := by
 have HG := Lib.hid hg
 clear hg
 go_enter Tryz.func124, Tryz.ntmps124
 go_wp2_with fail
 go_loopw [1] (fun s1 wr => ∃ n : Nat, 64 * n ≤ l.length ∧ BSo w.heap.size wr s1 (l.drop (64 * n)) ∧ Blk wr w.heap.size (arr 8 (blkN g l n)).toArray ∧ Blk wr (w.heap.size + 1) (arr 8 fun _ => 0).toArray ∧ Below w.heap.size w wr) (fun s1 _ => lenS s1)
 case atStart =>
  rw [zero8w]
  exact ⟨0, by omega, (show BSo w.heap.size w v (l.drop 0) from hv).keep (Below.allocS (Below.allocS (Below.refl _ _) _) _), (Blk.new w _ _).alloc _, Blk.new' (by simp), by (repeat (first | exact Below.refl _ _ | assumption | apply Below.drew | apply below_drewN | apply Below.allocS | (refine Below.setCell ?_ (by simp <;> omega) _) | (refine Below.alloc ?_ (by simp <;> omega) _) | (refine Below.trans ?_ (Below.mono (by assumption) (by simp <;> omega)))))⟩
 case round =>
  obtain ⟨n, hn, S, B, Z, hb⟩ := hrel
  rename_i wr
  clear hv
  have hml : (l.drop (64 * n)).length = l.length - 64 * n := by simp
  rcases id S with ⟨rfl, hm⟩ | ⟨p, off, cap, rfl, h1, h2, h3, h4⟩
  ·have hn2 : l.length / 64 = n := by
    have := congrArg List.length hm
    simp at this
    omega
   have HP : Hid (BlocksPost w g l = fun e w' => ∃ v', e = .returned (.tuple #[.agg (arr 8 (blkN g l n)).toArray, v']) ∧ BRow w' w.heap.size v' (l.drop (64 * n)) ∧ Below w.heap.size w w') := Lib.hid (by unfold BlocksPost; rw [hn2])
   have hm0 : (l.drop (64 * n)).length = 0 := by rw [hm]; rfl
   have hml2 : (l.drop (64 * n)).length ≤ 0 := by omega
   clear hn2 hml hm hm0
   obtain ⟨bc, bf, bl⟩ := id B
   obtain ⟨zc, zf, zl⟩ := id Z
   have HS := S.bs hb.size
   have HS2 := Lib.hid HS
   clear HS S
   generalize l.drop (64 * n) = m at *
   have hml' : m.length ≤ 64 := by omega
   go_wp2_with fail
   go_region_law (refine step_appBS rfl (.const (.slice none 0 0)) (.tmp 18) rfl wr.heap.size (.slice none 0 0) [] rfl (BRow.nil _ _) _ m rfl HS2.out (by simp; omega) (by simp) ?_; rintro v' w2 hB2 hg2; have hb2 := grown_nil hg2; have B2 := B.drew.keep hb2; have Z2 := Z.drew.keep hb2; obtain ⟨bc2, bf2, bl2⟩ := id B2; obtain ⟨zc2, zf2, zl2⟩ := id Z2)
   all_goals
    go_wp2_with fail
    have R := ((((((((Z2).set 0 (.int .u32 (blkN g l n 0))).set 1 (.int .u32 (blkN g l n 1))).set 2 (.int .u32 (blkN g l n 2))).set 3 (.int .u32 (blkN g l n 3))).set 4 (.int .u32 (blkN g l n 4))).set 5 (.int .u32 (blkN g l n 5))).set 6 (.int .u32 (blkN g l n 6))).set 7 (.int .u32 (blkN g l n 7))
    simp only [arr_set] at R
    rw [arr8_filled] at R
    refine bodyPost_ret (results_cellT rfl _ _ _ _ rfl (row_loadVar row8w _ (arr_len 8 _) R)) rfl ?_
    rw [HP.out]
    have hb3 : Below w.heap.size w w2 := hb.drew.trans (hb2.mono (by simp; exact hb.size))
    refine ⟨v', rfl, BRow.mono (hB2.kept (fun k hk => ?_)) (by omega), (((((((hb3.setCell (by simp) _).setCell (by simp) _).setCell (by simp) _).setCell (by simp) _).setCell (by simp) _).setCell (by simp) _).setCell (by simp) _).setCell (by simp) _⟩
    have hk2 := (ownBlock_lt hB2 k hk).1
    have hne : k ≠ w.heap.size + 1 := by omega
    have hne2 : w.heap.size + 1 ≠ k := by omega
    rw [Below.heap_setCell _ _ _ _ hne, Below.heap_setCell _ _ _ _ hne, Below.heap_setCell _ _ _ _ hne, Below.heap_setCell _ _ _ _ hne, Below.heap_setCell _ _ _ _ hne, Below.heap_setCell _ _ _ _ hne, Below.heap_setCell _ _ _ _ hne, Below.heap_setCell _ _ _ _ hne]
  ·by_cases hge : 64 ≤ (l.drop (64 * n)).length
   ·have hbd : ∀ i, i < 64 → blkB l n i = (((l.drop (64 * n)).getD i 0).toNat : Int) := fun i hi => rfl
    have HN : Hid (blkN g l (n + 1) = blk (blkN g l n) (blkB l n)) := Lib.hid rfl
    have HB := Lib.hid (blkN_bd g l HG.out n)
    have HBB := Lib.hid (blkB_bd l n)
    have HHB := Lib.hid hbd
    have HD : Hid (l.drop (64 * (n + 1)) = (l.drop (64 * n)).drop 64) := Lib.hid (by rw [List.drop_drop]; congr 1)
    clear hbd
    have H4 := Lib.hid h4
    clear h4
    have Hml := Lib.hid hml
    clear hml
    generalize l.drop (64 * n) = m at *
    generalize blkN g l n = f at *
    generalize blkB l n = bb at *
    have hge' : (64 : Int) ≤ (m.length : Int) := by omega
    have hcap : (64 : Int) ≤ (cap : Int) := by omega
    unfold maxLen at h2
    go_wp2_with fail
    refine wp_tail 5 (by kernel_rfl) (by kernel_rfl) ?_
    intro w2 hw2
    have B2 : Blk w2 w.heap.size (arr 8 f).toArray := by rw [hw2]; exact B.drew
    have Z2 : Blk w2 (w.heap.size + 1) (arr 8 fun _ => 0).toArray := by rw [hw2]; exact Z.drew
    have S2 : BSrc w2 p off m := by rw [hw2]; exact H4.out.drew
    have hb2 : Below w.heap.size w w2 := by rw [hw2]; exact hb.drew
    have hp2 : p < w2.heap.size := Nat.lt_of_lt_of_le h3 hb2.size
    clear hw2
    simp only [List.take_succ_cons, List.take_zero, List.drop_succ_cons, List.drop_zero]
    refine wpStill_rowLoadAt row8w rfl (.tmp 2) rfl rfl (arr_len 8 f) B2.range ?_
    repeat still_step
    refine wpStill_arrayAt rfl (.tmp 11) rfl rfl (by omega) ?_
    refine wpStill_rowLoadAt row64b rfl (.tmp 12) rfl rfl (arb_len 64 bb) (bytes_range S2 hge bb HHB.out) ?_
    refine wpStill_nil ?_
    go_wp2_with fail
    refine (block_any f bb HB.out (fun i _ => HBB.out i) _ (hk0.keep hb2)).mono ?_
    rintro e w3 ⟨rfl, hb3⟩
    have B3 := B2.keep hb3
    have Z3 := Z2.keep hb3
    have S3 : BSrc w3 p off m := fun i hi => (hb3.cell (p := ⟨p, off + i, none⟩) hp2).trans (S2 i hi)
    have hp3 : p < w3.heap.size := Nat.lt_of_lt_of_le hp2 hb3.size
    have hb4 := hb2.trans (hb3.mono hb2.size)
    clear B2 Z2 S2 hb2 hb3 hp2
    by_cases hc : cap = 64
    ·subst hc
     have hm64 : m.length = 64 := by omega
     go_wp2_with (refine wpList_rowStore row8w rfl rfl (.tmp 2) (.tmp 14) rfl rfl rfl (arr_len 8 _) (arr_one 8 _) (arr_len 8 _) B3 ?_; intro w4 B4 m4)
     have S4 : BSrc w4 p off m := fun i hi => (World.cell?_of_block (w := w3) (m4.block p hp3 (by simp; omega))).trans (S3 i hi)
     have hb5 := Below.mod hb4 m4 (by have := B3.lt; omega) (by simp)
     exact ⟨⟨n + 1, by have := Hml.out; omega, .inr ⟨p, off, 0, by rw [HD.out]; simp [hm64], by rw [HD.out]; simp [hm64], by omega, h3, fun i hi => by rw [HD.out] at hi; simp [hm64] at hi⟩, by rw [HN.out]; exact B4, Z3.mod m4 (by simp), hb5⟩, by simp [lenS]; omega⟩
    ·have hcap2 : ¬ (cap : Int) = 64 := by omega
     go_wp2_with (refine wpList_rowStore row8w rfl rfl (.tmp 2) (.tmp 14) rfl rfl rfl (arr_len 8 _) (arr_one 8 _) (arr_len 8 _) B3 ?_; intro w4 B4 m4)
     have S4 : BSrc w4 p off m := fun i hi => (World.cell?_of_block (w := w3) (m4.block p hp3 (by simp; omega))).trans (S3 i hi)
     have hb5 := Below.mod hb4 m4 (by have := B3.lt; omega) (by simp)
     have hdl : (m.drop 64).length = m.length - 64 := by simp
     exact ⟨⟨n + 1, by have := Hml.out; omega, .inr ⟨p, off + 64, cap - 64, by rw [HD.out, hdl], by rw [HD.out, hdl]; omega, by unfold maxLen; omega, h3, fun i hi => by
      rw [HD.out] at hi ⊢
      have h := S4 (64 + i) (by omega)
      rw [← Nat.add_assoc] at h
      rw [h]
      simp [List.getD]⟩, by rw [HN.out]; exact B4, Z3.mod m4 (by simp), hb5⟩, by simp [lenS]; omega⟩
   ·have hn2 : l.length / 64 = n := by omega
    have hlt : ¬ (64 : Int) ≤ ((l.drop (64 * n)).length : Int) := by omega
    have HP : Hid (BlocksPost w g l = fun e w' => ∃ v', e = .returned (.tuple #[.agg (arr 8 (blkN g l n)).toArray, v']) ∧ BRow w' w.heap.size v' (l.drop (64 * n)) ∧ Below w.heap.size w w') := Lib.hid (by unfold BlocksPost; rw [hn2])
    clear hn2 hml h4
    obtain ⟨bc, bf, bl⟩ := id B
    obtain ⟨zc, zf, zl⟩ := id Z
    have HS := S.bs hb.size
    have HS2 := Lib.hid HS
    clear HS S
    generalize l.drop (64 * n) = m at *
    have hml' : m.length ≤ 64 := by omega
    go_wp2_with fail
    go_region_law (refine step_appBS rfl (.const (.slice none 0 0)) (.tmp 18) rfl wr.heap.size (.slice none 0 0) [] rfl (BRow.nil _ _) _ m rfl HS2.out (by simp; omega) (by simp) ?_; rintro v' w2 hB2 hg2; have hb2 := grown_nil hg2; have B2 := B.drew.keep hb2; have Z2 := Z.drew.keep hb2; obtain ⟨bc2, bf2, bl2⟩ := id B2; obtain ⟨zc2, zf2, zl2⟩ := id Z2)
    all_goals
     go_wp2_with fail
     have R := ((((((((Z2).set 0 (.int .u32 (blkN g l n 0))).set 1 (.int .u32 (blkN g l n 1))).set 2 (.int .u32 (blkN g l n 2))).set 3 (.int .u32 (blkN g l n 3))).set 4 (.int .u32 (blkN g l n 4))).set 5 (.int .u32 (blkN g l n 5))).set 6 (.int .u32 (blkN g l n 6))).set 7 (.int .u32 (blkN g l n 7))
     simp only [arr_set] at R
     rw [arr8_filled] at R
     refine bodyPost_ret (results_cellT rfl _ _ _ _ rfl (row_loadVar row8w _ (arr_len 8 _) R)) rfl ?_
     rw [HP.out]
     have hb3 : Below w.heap.size w w2 := hb.drew.trans (hb2.mono (by simp; exact hb.size))
     refine ⟨v', rfl, BRow.mono (hB2.kept (fun k hk => ?_)) (by omega), (((((((hb3.setCell (by simp) _).setCell (by simp) _).setCell (by simp) _).setCell (by simp) _).setCell (by simp) _).setCell (by simp) _).setCell (by simp) _).setCell (by simp) _⟩
     have hk2 := (ownBlock_lt hB2 k hk).1
     have hne : k ≠ w.heap.size + 1 := by omega
     have hne2 : w.heap.size + 1 ≠ k := by omega
     rw [Below.heap_setCell _ _ _ _ hne, Below.heap_setCell _ _ _ _ hne, Below.heap_setCell _ _ _ _ hne, Below.heap_setCell _ _ _ _ hne, Below.heap_setCell _ _ _ _ hne, Below.heap_setCell _ _ _ _ hne, Below.heap_setCell _ _ _ _ hne, Below.heap_setCell _ _ _ _ hne]
end Go.Proofs.YtjppbomngnomhaaGreatDoor
namespace Go.Proofs.YtjppbomngnomhaaGreatDoor
open Go.RowKit
def be8 (x : Nat) : List UInt8 := (List.range 8).map fun i => UInt8.ofNat (x / 2 ^ (56 - 8 * i) % 256)
def zer (n : Nat) : Nat := (119 - n % 64) % 64
def padEnd (n : Nat) : List UInt8 := 128 :: List.replicate (zer n) 0 ++ be8 (8 * n)
def padP (s : List UInt8) : List UInt8 := s ++ padEnd s.length
def sumP (s : List UInt8) : List UInt8 := toldP (blkN firstW (padP s) ((padP s).length / 64))
theorem sumP_len (s : List UInt8) : (sumP s).length = 32 := toldP_len _
theorem be8_len (x : Nat) : (be8 x).length = 8 := by simp [be8]
theorem be_val (n k : Nat) : ((n : Int) * 8 / 2 ^ k % 256) = ((UInt8.ofNat (8 * n / 2 ^ k % 256)).toNat : Int) := by
 have h1 : 8 * n / 2 ^ k % 256 < 256 := Nat.mod_lt _ (by omega)
 have h2 : (UInt8.ofNat (8 * n / 2 ^ k % 256)).toNat = 8 * n / 2 ^ k % 256 := by simp
 rw [h2, Int.natCast_emod, Int.natCast_ediv, Int.natCast_mul, Int.natCast_pow, Int.mul_comm (n : Int) 8]
 rfl
theorem padEnd_len (n : Nat) : (padEnd n).length = 9 + zer n := by simp [padEnd, be8_len]; omega
theorem sch_lo (b : Nat → Int) (i : Nat) (h : i < 16) : sch b i = word4 b i := by rw [sch, dif_pos h]
theorem sch_hi (b : Nat → Int) (i : Nat) (h : ¬ i < 16) : sch b i = (sch b (i - 16) + sg0 (sch b (i - 15)) + sch b (i - 7) + sg1 (sch b (i - 2))) % 4294967296 := by rw [sch, dif_neg h]
theorem sch_of {b b' : Nat → Int} (h : ∀ j, j < 64 → b j = b' j) (i : Nat) : sch b i = sch b' i := by
 induction i using Nat.strongRecOn with
 | _ i ih =>
  by_cases hi : i < 16
  ·rw [sch_lo b i hi, sch_lo b' i hi, word4, word4, h _ (by omega), h _ (by omega), h _ (by omega), h _ (by omega)]
  ·rw [sch_hi b i hi, sch_hi b' i hi, ih (i - 16) (by omega), ih (i - 15) (by omega), ih (i - 7) (by omega), ih (i - 2) (by omega)]
theorem rds_of (g : Nat → Int) {b b' : Nat → Int} (h : ∀ j, j < 64 → b j = b' j) : ∀ n, rds g b n = rds g b' n
 | 0 => rfl
 | n + 1 => by rw [rds, rds, rds_of g h n, sch_of h]
theorem blk_of {g : Nat → Int} {b b' : Nat → Int} (h : ∀ j, j < 64 → b j = b' j) : blk g b = blk g b' := by
 funext i
 unfold blk
 rw [rds_of g h]
theorem blkN_app (g : Nat → Int) (a b : List UInt8) : ∀ n, 64 * n ≤ a.length → blkN g (a ++ b) n = blkN g a n
 | 0, _ => rfl
 | n + 1, h => by
  rw [blkN, blkN, blkN_app g a b n (by omega)]
  funext i
  have : ∀ j, j < 64 → blkB (a ++ b) n j = blkB a n j := by
   intro j hj
   unfold blkB
   rw [List.drop_append_of_le_length (by omega)]
   rw [List.getD_eq_getElem?_getD, List.getD_eq_getElem?_getD, List.getElem?_append_left (by simp; omega)]
  exact congrFun (blk_of this) i
theorem blkN_add (g : Nat → Int) (l : List UInt8) (m : Nat) : ∀ n, blkN g l (m + n) = blkN (blkN g l m) (l.drop (64 * m)) n
 | 0 => rfl
 | n + 1 => by
  rw [← Nat.add_assoc, blkN, blkN, blkN_add g l m n]
  have : blkB l (m + n) = blkB (l.drop (64 * m)) n := by
   funext i
   unfold blkB
   rw [List.drop_drop]
   congr 4; omega
  rw [this]
theorem sum_two (s : List UInt8) : sumP s = toldP (blkN (blkN firstW s (s.length / 64)) (s.drop (64 * (s.length / 64)) ++ padEnd s.length) ((s.drop (64 * (s.length / 64)) ++ padEnd s.length).length / 64)) := by
 unfold sumP
 have hl : (padP s).length = s.length + (9 + zer s.length) := by simp [padP, padEnd_len]
 have hl2 : (s.drop (64 * (s.length / 64)) ++ padEnd s.length).length = s.length - 64 * (s.length / 64) + (9 + zer s.length) := by simp [padEnd_len]
 have hd : (padP s).length / 64 = s.length / 64 + (s.drop (64 * (s.length / 64)) ++ padEnd s.length).length / 64 := by rw [hl, hl2]; omega
 rw [hd, blkN_add]
 congr 2
 ·exact blkN_app _ _ _ _ (by omega)
 ·unfold padP
  rw [List.drop_append_of_le_length (by omega)]
def hcells (f : Nat → Int) (v : Value) (n : Int) : List Value := arr 8 f ++ [v, .int .i64 n]
theorem hcells_lit (f : Nat → Int) (v : Value) (n : Int) : (hcells f v n).toArray = #[.int .u32 (f 0), .int .u32 (f 1), .int .u32 (f 2), .int .u32 (f 3), .int .u32 (f 4), .int .u32 (f 5), .int .u32 (f 6), .int .u32 (f 7), v, .int .i64 n] := rfl
theorem new_any (w : World) : Calls Tryz.prog 97 #[] w fun e w' => ∃ p, w.heap.size ≤ p ∧ e = .returned (.pointer (some ⟨p, 0, none⟩)) ∧ Blk w' p (hcells firstW (.slice none 0 0) 0).toArray ∧ Below w.heap.size w w' := by
 go_enter Tryz.func97, Tryz.ntmps97
 go_wp2_with fail
 refine (first_any _).mono ?_
 rw [first_lit]
 rintro e w1 ⟨rfl, hb⟩
 go_wp2_with fail
 go_ret
 exact ⟨w1.heap.size, hb.size, rfl, Blk.new' rfl, Below.allocS hb _⟩
theorem app8 (f : Nat → Int) : #[Value.int .u32 (f 0), .int .u32 (f 1), .int .u32 (f 2), .int .u32 (f 3), .int .u32 (f 4), .int .u32 (f 5), .int .u32 (f 6), .int .u32 (f 7)] = (arr 8 f).toArray := rfl
theorem blocks_lit (g : Nat → Int) (hg : ∀ i, W32 (g i)) (v : Value) (l : List UInt8) (hl : l.length ≤ 1099511627776) (ff : Nat → Int) (tl : List UInt8) (h1 : blkN g l (l.length / 64) = ff) (h2 : l.drop (64 * (l.length / 64)) = tl) (w : World) (hv : BS w v l) (hk0 : KT w) :
  Calls Tryz.prog 124 #[.agg (arr 8 g).toArray, v] w fun e w' => ∃ a c, e = .returned (.tuple #[.agg #[.int .u32 (ff 0), .int .u32 (ff 1), .int .u32 (ff 2), .int .u32 (ff 3), .int .u32 (ff 4), .int .u32 (ff 5), .int .u32 (ff 6), .int .u32 (ff 7)], .slice a tl.length c]) ∧
   BRow w' w.heap.size (.slice a tl.length c) tl ∧ Below w.heap.size w w' := by
 subst h1 h2
 refine (blocks_any g hg v l hl w hv hk0).mono ?_
 rintro e w3 ⟨v3, rfl, hB3, hb3⟩
 obtain ⟨a, c, hv3⟩ := hB3.bs.len
 subst hv3
 exact ⟨a, c, rfl, hB3, hb3⟩
def WritePost (W : World) (p : Nat) (s : List UInt8) (e : Ending) (w' : World) : Prop :=
 ∃ v', e = .returned (.tuple #[]) ∧ Blk w' p (hcells (blkN firstW s (s.length / 64)) v' s.length).toArray ∧ BRow w' W.heap.size v' (s.drop (64 * (s.length / 64))) ∧ Mod [p] W w'
theorem write_any (p : Nat) (s : List UInt8) (hs : s.length ≤ 1099511627776) (w : World) (hk : KT w) (hp : p ≠ 0) (P : Blk w p (hcells firstW (.slice none 0 0) 0).toArray) :
  Calls Tryz.prog 98 #[.pointer (some ⟨p, 0, none⟩), .string ⟨List.toArray s⟩] w (WritePost w p s) := by
 have P1 := P.set 9 (.int .i64 (s.length : Int))
 rw [hcells_lit] at P P1
 obtain ⟨pc, pf, pl⟩ := id P
 have hw1 : Mod [p] w (w.setCell ⟨p, 9, none⟩ (.int .i64 (s.length : Int))) := (Mod.refl _ _).setCell (.inl (by simp)) _
 have HP : Hid (WritePost w p s = fun e w' => ∃ v', e = .returned (.tuple #[]) ∧ Blk w' p (hcells (blkN firstW s (s.length / 64)) v' s.length).toArray ∧ BRow w' w.heap.size v' (s.drop (64 * (s.length / 64))) ∧ Mod [p] w w') := Lib.hid rfl
 have HBL := fun (ff : Nat → Int) (tl : List UInt8) h1 h2 v => blocks_lit firstW firstW_bd v s hs ff tl h1 h2
 replace HBL := HBL _ _ rfl rfl
 generalize blkN firstW s (s.length / 64) = ff at *
 generalize s.drop (64 * (s.length / 64)) = tl at *
 have HBH := Lib.hid HBL
 clear HBL
 go_enter Tryz.func98, Tryz.ntmps98
 go_wp2_with fail
 have hk1 : KT (w.setCell ⟨p, 9, none⟩ (.int .i64 (s.length : Int))) := ⟨fun i hi => by rw [World.cell?_setCell_other w _ _ _ (fun e => hp (by injection e))]; exact hk.cell i hi, by simpa [World.setCell] using hk.lt⟩
 have hsz : (w.setCell ⟨p, 9, none⟩ (.int .i64 (s.length : Int))).heap.size = w.heap.size := by simp [World.setCell]
 have P1' : Blk (w.setCell ⟨p, 9, none⟩ (.int .i64 (s.length : Int))) p #[.int .u32 (firstW 0), .int .u32 (firstW 1), .int .u32 (firstW 2), .int .u32 (firstW 3), .int .u32 (firstW 4), .int .u32 (firstW 5), .int .u32 (firstW 6), .int .u32 (firstW 7), .slice none 0 0, .int .i64 (s.length : Int)] := P1
 clear P1 P pc pf
 generalize w.setCell ⟨p, 9, none⟩ (.int .i64 (s.length : Int)) = w1 at *
 have HSZ := Lib.hid hsz
 clear hsz
 obtain ⟨pc, pf, pl1⟩ := id P1'
 go_region_law (first
  | (refine step_appBT rfl (.tmp 23) (.tmp 24) rfl w1.heap.size (.slice none 0 0) [] rfl (BRow.nil _ _) s rfl (by simp; omega) (by simp) ?_; rintro v' w2 hB2 hg2; have hb2 := grown_nil hg2; have P2 := P1'.drew.keep hb2; obtain ⟨pc2, pf2, pl2⟩ := id P2)
  | (go_simp; go_at_call 124; refine (HBH.out _ _ ?hbs ?hkk).mono ?_; (case hbs => exact hB2.bs); (case hkk => exact KT.keep (W := w1.drew) ⟨hk1.cell, hk1.lt⟩ hb2); rintro e w3 ⟨a3, c3, rfl, hB3, hb3⟩; have P3 := P2.keep hb3; obtain ⟨pc3, pf3, pl3⟩ := id P3))
 all_goals go_wp2_with fail
 all_goals
  refine bodyPost_end (results_none rfl _ _ _) rfl ?_
  rw [HP.out]
  refine ⟨.slice a3 tl.length c3, rfl, ?_, ?_, ?_⟩
  ·have Q := (((((((((P3.set 0 (.int .u32 (ff 0))).set 1 (.int .u32 (ff 1))).set 2 (.int .u32 (ff 2))).set 3 (.int .u32 (ff 3))).set 4 (.int .u32 (ff 4))).set 5 (.int .u32 (ff 5))).set 6 (.int .u32 (ff 6))).set 7 (.int .u32 (ff 7))).set 8 (.slice a3 tl.length c3))
   simp only [List.setIfInBounds_toArray, List.set_cons_zero, List.set_cons_succ] at Q
   rw [hcells_lit]
   exact Q
  ·refine BRow.mono (hB3.kept (fun k hk => ?_)) (Nat.le_trans (show w.heap.size ≤ w1.drew.heap.size from by rw [← HSZ.out]; exact Nat.le_refl _) hb2.size)
   have hne : k ≠ p := by have := (ownBlock_lt hB3 k hk).1; omega
   rw [Below.heap_setCell _ _ _ _ hne, Below.heap_setCell _ _ _ _ hne, Below.heap_setCell _ _ _ _ hne, Below.heap_setCell _ _ _ _ hne, Below.heap_setCell _ _ _ _ hne, Below.heap_setCell _ _ _ _ hne, Below.heap_setCell _ _ _ _ hne, Below.heap_setCell _ _ _ _ hne, Below.heap_setCell _ _ _ _ hne]
  ·exact (((((((((((hw1.drew.trans (Mod.of_below hb2)).trans (Mod.of_below hb3)).setCell (.inl (by simp)) _).setCell (.inl (by simp)) _).setCell (.inl (by simp)) _).setCell (.inl (by simp)) _).setCell (.inl (by simp)) _).setCell (.inl (by simp)) _).setCell (.inl (by simp)) _).setCell (.inl (by simp)) _).setCell (.inl (by simp)) _)
theorem hsum_any (p : Nat) (f : Nat → Int) (hf : ∀ i, W32 (f i)) (v : Value) (t : List UInt8) (n : Nat) (hn : n ≤ 1099511627776) (ht : t.length < 64) (hmod : t.length % 64 = n % 64) (w : World) (hk : KT w) (P : Blk w p (hcells f v n).toArray) (hv : BS w v t) :
  Calls Tryz.prog 99 #[.pointer (some ⟨p, 0, none⟩)] w fun e w' => e = .returned (.string ⟨List.toArray (toldP (blkN f (t ++ padEnd n) ((t ++ padEnd n).length / 64)))⟩) ∧ Below w.heap.size w w' := by
 generalize hR : toldP (blkN f (t ++ padEnd n) ((t ++ padEnd n).length / 64)) = R
 have HR := Lib.hid hR
 clear hR
 obtain ⟨a, c, hvs⟩ := hv.len
 subst hvs
 rw [hcells_lit] at P
 obtain ⟨pc, pf, pl⟩ := id P
 have HV := Lib.hid hv
 clear hv
 go_enter Tryz.func99, Tryz.ntmps99
 go_wp2_with (first
  | (refine wpList_appBS rfl (.const (.slice none 0 0)) (.tmp 11) rfl w.heap.size (.slice none 0 0) [] rfl (BRow.nil _ _) _ t rfl HV.out (by simp; omega) (by simp) ?_; rintro v1 w1 hB1 hg1; have hb1 := grown_nil hg1; clear hg1)
  | (refine wpList_appB rfl (.tmp 13) (.tmp 14) rfl w.heap.size _ ([] ++ t) rfl (hB1.alloc _) w1.heap.size 0 1 1 [128] rfl rfl (bsrc1 _ _ _ _ rfl) (by simp; omega) (by have := hb1.size; simp; omega) ?_; rintro v2 w2 hB2 hb2))
 have hb3 : Below w.heap.size w w2 := (Below.allocS hb1 _).trans hb2
 have hB3 : BRow w2 w.heap.size v2 (t ++ 128 :: List.replicate 0 0) := by simpa using hB2
 clear hB2 hB1 hb2 hb1
 go_loopw [3] (fun s3 wr => ∃ j : Nat, j ≤ zer n ∧ BRow wr w.heap.size s3 (t ++ 128 :: List.replicate j 0) ∧ Below w.heap.size w wr) (fun s3 _ => t.length + 1 + zer n - lenS s3)
 case atStart => exact ⟨0, by omega, hB3, hb3⟩
 case round =>
  clear hB3 hb3
  obtain ⟨j, hj, hB, hb⟩ := hrel
  rename_i wr
  obtain ⟨a2, c2, hvs⟩ := hB.bs.len
  subst hvs
  have hll : (t ++ 128 :: List.replicate j (0 : UInt8)).length = t.length + 1 + j := by simp; omega
  have hzd : zer n = (119 - n % 64) % 64 := rfl
  by_cases hlt : j < zer n
  ·have hrem : (((t ++ 128 :: List.replicate j (0 : UInt8)).length : Int) % 64 == 56) = false := by rw [hll]; simp; omega
   have hl2 : (t ++ 128 :: List.replicate j (0 : UInt8)).length ≤ 1000 := by omega
   have HN : Hid (t ++ 128 :: List.replicate (j + 1) 0 = (t ++ 128 :: List.replicate j 0) ++ [0]) := Lib.hid (by simp [List.replicate_succ'])
   have HLL := Lib.hid hll
   clear hll hzd
   generalize t ++ 128 :: List.replicate j (0 : UInt8) = m at *
   go_wp2_with (refine wpList_appB rfl (.tmp 20) (.tmp 21) rfl w.heap.size _ m rfl (hB.alloc _) wr.heap.size 0 1 1 [0] rfl rfl (bsrc1 _ _ _ _ rfl) (by omega) (by have := hb.size; simp; omega) ?_; rintro v3 w3 hB3 hb3)
   obtain ⟨a3, c3, hvs3⟩ := hB3.bs.len
   have hls : lenS v3 = m.length + 1 := by rw [hvs3]; simp [lenS]
   exact ⟨⟨j + 1, by omega, by rw [HN.out]; exact hB3, (Below.allocS hb _).trans hb3⟩, by have := HLL.out; rw [hls]; simp [lenS]; omega⟩
  ·have hje : j = zer n := by omega
   subst hje
   have hrem : (((t ++ 128 :: List.replicate (zer n) (0 : UInt8)).length : Int) % 64 == 56) = true := by rw [hll]; simp; omega
   have hl2 : (t ++ 128 :: List.replicate (zer n) (0 : UInt8)).length ≤ 1000 := by omega
   have HM : Hid (t ++ 128 :: List.replicate (zer n) 0 ++ be8 (8 * n) = t ++ padEnd n) := Lib.hid (by simp [padEnd])
   clear hll hzd hlt
   generalize t ++ 128 :: List.replicate (zer n) (0 : UInt8) = m at *
   have hremN : ((m.length : Int) % 64 != 56) = false := by simp [bne, hrem]
   have P2 := P.keep hb
   obtain ⟨pc2, pf2, pl2⟩ := id P2
   clear pc pf
   go_wp2_with fail
   go_loopw [3, 29] (fun s3 s29 wr => ∃ i : Nat, i ≤ 8 ∧ s29 = .int .i64 i ∧ BRow wr w.heap.size s3 (m ++ (be8 (8 * n)).take i) ∧ Below w.heap.size w wr) (fun _ s29 _ => 8 - (intOf s29).toNat)
   case atStart => exact ⟨0, by omega, rfl, by simpa using hB, hb⟩
   case round =>
    clear hB hb P2 pc2 pf2 pl2
    obtain ⟨i, hi, rfl, hB, hb⟩ := hrel
    rename_i wq
    obtain ⟨a2, c2, hvs⟩ := hB.bs.len
    subst hvs
    have hll : (m ++ (be8 (8 * n)).take i).length ≤ 1008 := by simp [be8_len]; omega
    by_cases hlt : i < 8
    ·have hlt' : (i : Int) < 8 := by omega
     have hat : (be8 (8 * n)).take (i + 1) = (be8 (8 * n)).take i ++ [UInt8.ofNat (8 * n / 2 ^ (56 - 8 * i) % 256)] := by
      rw [List.take_succ_eq_append_getElem (by rw [be8_len]; exact hlt)]
      simp [be8]
     have HN : Hid (m ++ (be8 (8 * n)).take (i + 1) = (m ++ (be8 (8 * n)).take i) ++ [UInt8.ofNat (8 * n / 2 ^ (56 - 8 * i) % 256)]) := Lib.hid (by rw [hat, List.append_assoc])
     clear hat
     generalize m ++ (be8 (8 * n)).take i = mm at *
     have hsh : (56 - 8 * (i : Int)).toNat = 56 - 8 * i := by omega
     have q0 : (0 : Int) ≤ 56 - 8 * (i : Int) := by omega
     have hval := Lib.hid (be_val n (56 - 8 * i))
     go_wp2_with (refine wpList_appB rfl (.tmp 32) (.tmp 39) rfl w.heap.size _ mm rfl (hB.alloc _) _ 0 1 1 [UInt8.ofNat (8 * n / 2 ^ (56 - 8 * i) % 256)] rfl rfl (bsrc1 _ _ _ _ hval.out) (by omega) (by have := hb.size; simp; omega) ?_; rintro v3 w3 hB3 hb3)
     exact ⟨⟨i + 1, by omega, by go_num, by rw [HN.out]; exact hB3, (Below.allocS hb _).trans hb3⟩, by simp [intOf]; omega⟩
    ·have hie : i = 8 := by omega
     subst hie
     have HE : Hid (m ++ (be8 (8 * n)).take 8 = t ++ padEnd n) := Lib.hid (by rw [List.take_of_length_le (by rw [be8_len]; omega)]; exact HM.out)
     rw [HE.out] at hB hll ⊢
     have HF := Lib.hid (blkN_bd f (t ++ padEnd n) hf ((t ++ padEnd n).length / 64))
     have HBL := Lib.hid (fun v => blocks_lit f hf v (t ++ padEnd n) (by omega) _ _ rfl rfl)
     have P3 := P.keep hb
     have hk3 := hk.keep hb
     obtain ⟨pc3, pf3, pl3⟩ := id P3
     generalize t ++ padEnd n = m3 at *
     generalize blkN f m3 (m3.length / 64) = ff at *
     go_wp2_with fail
     refine (HBL.out _ _ hB.bs hk3).mono ?_
     rintro e w4 ⟨a4, c4, rfl, hB4, hb4⟩
     go_wp2_with fail
     rw [app8]
     refine (told_any ff HF.out _).mono ?_
     rintro e w5 ⟨rfl, hb5⟩
     go_wp2_with fail
     go_ret
     exact ⟨by rw [← HR.out]; rfl, ((Below.allocS (hb.trans (hb4.mono hb.size)) _).trans (hb5.mono (by have := hb.size; have := hb4.size; simp; omega)))⟩
theorem shasum_any (s : List UInt8) (hs : s.length ≤ 1099511627776) (w : World) (hk : KT w) :
  Calls Tryz.prog 77 #[.string ⟨List.toArray s⟩] w fun e w' => e = .returned (.string ⟨List.toArray (sumP s)⟩) ∧ Below w.heap.size w w' := by
 go_enter Tryz.func77, Tryz.ntmps77
 go_wp2_with fail
 refine (new_any _).mono ?_
 rintro e w1 ⟨p, hp, rfl, P, hb1⟩
 have hk1 := hk.keep hb1
 have hpk : p ≠ 0 := by have := hk.lt; omega
 go_wp2_with fail
 refine (write_any p s hs _ hk1 hpk P).mono ?_
 rintro e w2 ⟨v2, rfl, P2, hB2, m2⟩
 have hk2 : KT w2 := ⟨fun i hi => (World.cell?_of_block (w := w1) (m2.block _ hk1.lt (by simp; exact fun h => hpk h.symm))).trans (hk1.cell i hi), Nat.lt_of_lt_of_le hk1.lt m2.size⟩
 have hb2 : Below w.heap.size w w2 := Below.mod hb1 m2 hb1.size (by simp; exact hp)
 go_wp2_with fail
 have htl : (s.drop (64 * (s.length / 64))).length = s.length - 64 * (s.length / 64) := by simp
 refine (hsum_any p _ (blkN_bd firstW s firstW_bd _) v2 _ s.length hs (by omega) (by omega) _ hk2 P2 hB2.bs).mono ?_
 rw [← sum_two]
 rintro e w3 ⟨rfl, hb3⟩
 go_wp2_with fail
 go_ret
 exact ⟨rfl, hb2.trans (hb3.mono hb2.size)⟩
end Go.Proofs.YtjppbomngnomhaaGreatDoor
namespace Go.Proofs.YtjppbomngnomhaaGreatDoor
open Go.RowKit
def tagP (tag : Nat) (s : List UInt8) : List UInt8 := sumP (UInt8.ofNat tag :: s)
theorem tagP_len (tag : Nat) (s : List UInt8) : (tagP tag s).length = 32 := sumP_len _
theorem digsum_ok (tag : Nat) (h1 : 1 ≤ tag) (h2 : tag ≤ 255) (s : List UInt8) (hs : s.length ≤ 1099511627000) (w : World) (hk : KT w) :
  Calls Tryz.prog 56 #[.int .i64 ((tag : Int)), .string ⟨List.toArray s⟩] w fun e w' => e = .returned (.tuple #[.string ⟨List.toArray (tagP tag s)⟩, .int .i64 0]) ∧ Below w.heap.size w w' := by
 have hd1 : decide ((tag : Int) < 1) = false := by simp; omega
 have hd2 : decide ((255 : Int) < (tag : Int)) = false := by simp; omega
 have q : IntKind.u8.wrap (tag : Int) = (tag : Int) := by rw [IntKind.wrap_u8']; omega
 have hcat : ¬ 9223372036854775807 < 1 + s.length := by omega
 have hcat2 : ¬ 9223372036854775807 < s.length + 1 := by omega
 have hb0 : Below w.heap.size w (w.alloc (.cells #[.int .u8 (tag : Int)] 5)) := Below.allocS (Below.refl _ _) _
 go_enter Tryz.func56, Tryz.ntmps56
 go_wp2_with fail
 refine (shasum_any (UInt8.ofNat tag :: s) (by simp; omega) _ (hk.keep hb0)).mono ?_
 rintro e w2 ⟨rfl, hb⟩
 go_wp2_with fail
 go_ret2
 exact ⟨rfl, hb0.trans (hb.mono (by simp))⟩
end Go.Proofs.YtjppbomngnomhaaGreatDoor
namespace Go.Proofs.YtjppbomngnomhaaGreatDoor
open Go.RowKit Pl
theorem flat_take (kid : Nat → Bs) (ha : all32 (kidsF kid) = true) (k : Nat) (hk : k ≤ 16) : (kidsTo kid k).flatten.length ≤ 512 := by
 have h : ∃ m, kidsTo kid k ++ m = kidsF kid := by
  have : ∀ j, ∃ m, kidsTo kid k ++ m = kidsTo kid (k + j) := by
   intro j
   induction j with
   | zero => exact ⟨[], by simp⟩
   | succ j ih =>
    obtain ⟨m, hm⟩ := ih
    exact ⟨m ++ (if kid (k + j) = [] then [] else [kid (k + j)]), by rw [← List.append_assoc, hm, ← Nat.add_assoc, kidsTo_succ]⟩
  obtain ⟨m, hm⟩ := this (16 - k)
  exact ⟨m, by rw [hm, show k + (16 - k) = 16 from by omega]; rfl⟩
 obtain ⟨m, hm⟩ := h
 have h2 := flat_len _ ha
 have h3 : (kidsF kid).length ≤ 16 := kidsTo_len kid 16
 have h4 : (kidsF kid).flatten.length = (kidsTo kid k).flatten.length + m.flatten.length := by
  rw [← hm, List.flatten_append, List.length_append]
 omega
theorem enc_small (kind : Int) (path val : Bs) (kid : Nat → Bs) (h : chk kind path val kid = true) : (enc kind path val kid).length ≤ 1000 := by
 have hf : fineR kind path val kid = true := by rw [fine_chk]; exact h
 unfold fineR at hf
 split at hf
 ·cases hf
 ·rename_i ha
  have ha' : all32 (kidsF kid) = true := by simpa using ha
  split at hf
  ·cases hf
  ·rename_i hb
   simp only [not_or] at hb
   obtain ⟨_, hp, hv⟩ := hb
   have h1 := text_len val
   have h2 := text_len (pack path true).1
   have h3 := pack_len path true
   have h4 := text_len (pack path false).1
   have h5 := pack_len path false
   have h6 := flat_take kid ha' 16 (by omega)
   have h6' : (kidsF kid).flatten.length ≤ 512 := h6
   unfold enc
   by_cases k3 : kind = 3
   ·rw [if_pos k3]; simp only [List.length_append, List.length_cons, List.length_nil]; omega
   ·rw [if_neg k3]
    by_cases k1 : kind = 1
    ·rw [if_pos k1]; simp only [List.length_append, List.length_cons]; omega
    ·rw [if_neg k1]
     by_cases k2 : kind = 2
     ·subst k2
      have h0 : (kid 0).length = 32 := by simp [chk, all32] at h; omega
      simp only [List.length_append, List.length_cons]; omega
     ·rw [if_neg k1, if_neg k2, if_neg k3] at hf; cases hf
def dgP (kind : Int) (path val : Bs) (kid : Nat → Bs) : Bs := if chk kind path val kid then tagP 1 (enc kind path val kid) else []
theorem ndigest_any (kind : Int) (path val : Bs) (kid : Nat → Bs) (hp : path.length ≤ 1000) (w : World) (hk : KT w) :
  Calls Tryz.prog 92 #[.agg (nd kind path val kid).toArray] w fun e w' => e = .returned (.string ⟨List.toArray (dgP kind path val kid)⟩) ∧ Below w.heap.size w w' := by
 generalize hd : dgP kind path val kid = d
 have HD := Lib.hid hd
 clear hd
 have hB := Blk.new w (nd kind path val kid).toArray 76
 have hb0 : Below w.heap.size w (w.alloc (.cells (nd kind path val kid).toArray 76)) := Below.allocS (Below.refl _ _) _
 go_enter Tryz.func92, Tryz.ntmps92
 go_wp2_with (refine wpList_node rfl (.tmp 1) rfl rfl hB ?_)
 refine (encode_any kind path val kid (by omega) _).mono ?_
 rintro e w1 ⟨rfl, hb1⟩
 have hb2 := hb0.trans (hb1.mono (by simp))
 cases hc : chk kind path val kid
 ·have HZ : Hid (d = []) := Lib.hid (by rw [← HD.out]; simp [dgP, hc])
  rw [show encR kind path val kid = ([], 80) from by simp [encR, hc]]
  go_wp2_with fail
  go_ret
  exact ⟨by rw [HZ.out]; rfl, hb2⟩
 ·have hl := enc_small kind path val kid hc
  have HZ : Hid (d = tagP 1 (enc kind path val kid)) := Lib.hid (by rw [← HD.out]; simp [dgP, hc])
  rw [show encR kind path val kid = (enc kind path val kid, 0) from by simp [encR, hc]]
  generalize enc kind path val kid = en at *
  go_wp2_with fail
  refine (digsum_ok 1 (by omega) (by omega) en (by omega) _ (hk.keep hb2)).mono ?_
  rintro e w2 ⟨rfl, hb3⟩
  go_wp2_with fail
  go_ret
  exact ⟨by rw [HZ.out]; rfl, hb2.trans (hb3.mono hb2.size)⟩
end Go.Proofs.YtjppbomngnomhaaGreatDoor
namespace Go.Proofs.YtjppbomngnomhaaGreatDoor
open Go.RowKit Pl
def kindT : Tri → Int
 | .nil => 0
 | .leaf _ _ => 1
 | .ext _ _ => 2
 | .br _ _ => 3
def pathT : Tri → Bs
 | .leaf p _ => p
 | .ext p _ => p
 | _ => []
def valT : Tri → Bs
 | .leaf _ v => v
 | .br v _ => v
 | _ => []
def kidsOf : Tri → Nat → Tri
 | .ext _ t => updT noT 0 t
 | .br _ kids => kids
 | _ => noT
def kidF (f : Nat → Bs) : Nat → Bs := fun i => if i < 16 then f i else []
def sumT : Tri → Bs
 | .nil => []
 | .leaf p v => dgP 1 p v (kidF fun _ => [])
 | .ext p t => dgP 2 p [] (kidF fun i => if i = 0 then sumT t else [])
 | .br v kids => dgP 3 [] v (kidF fun i => sumT (kids i))
theorem sumT_knot (t : Tri) (h : t ≠ .nil) : sumT t = dgP (kindT t) (pathT t) (valT t) (kidF fun i => sumT (kidsOf t i)) := by
 cases t with
 | nil => exact absurd rfl h
 | leaf p v => simp [sumT, kindT, pathT, valT, kidsOf, noT]
 | ext p t =>
  simp only [sumT, kindT, pathT, valT, kidsOf]
  congr 2
  funext i
  simp only [updT]
  split
  ·rfl
  ·simp [noT, sumT]
 | br v kids => simp [sumT, kindT, pathT, valT, kidsOf]
def textT (t : Tri) : Bs := (encR (kindT t) (pathT t) (valT t) (kidF fun i => sumT (kidsOf t i))).1
def cntT (f : Nat → Tri) : Nat → Nat
 | 0 => 0
 | i + 1 => cntT f i + (rp (f i)).length
theorem cntT_flat (f : Nat → Tri) (g : Nat → It → It) : ∀ n, ((List.range n).flatMap fun i => (rp (f i)).map (g i)).length = cntT f n
 | 0 => rfl
 | n + 1 => by
  rw [List.range_succ, List.flatMap_append, List.length_append, cntT_flat f g n, cntT]
  simp
theorem cntT_no : ∀ n, cntT noT n = 0
 | 0 => rfl
 | n + 1 => by rw [cntT, cntT_no n]; rfl
theorem cntT_one (t : Tri) : ∀ n, cntT (updT noT 0 t) (n + 1) = (rp t).length
 | 0 => by simp [cntT, updT]
 | n + 1 => by rw [cntT, cntT_one t n]; simp [updT, noT, rp]
def ownN (v : Bs) : Nat := if v = [] then 0 else 1
theorem rp_len (t : Tri) (h : t ≠ .nil) : (rp t).length = cntT (kidsOf t) 16 + ownN (valT t) := by
 cases t with
 | nil => exact absurd rfl h
 | leaf p v =>
  simp only [rp, kidsOf, valT, cntT_no, ownN]
  split <;> simp [*]
 | ext p t =>
  simp only [rp, kidsOf, valT, ownN, List.length_map]
  rw [cntT_one]; simp
 | br v kids =>
  simp only [rp, kidsOf, valT, List.length_append, ownN]
  rw [cntT_flat kids (fun i x => (UInt8.ofNat i :: x.1, x.2)) 16, Nat.add_comm]
  congr 1
  split <;> simp [*]
def w64 (n : Nat) : Int := IntKind.i64.wrap n
theorem w64_add (a b : Nat) : IntKind.i64.wrap (w64 a + w64 b) = w64 (a + b) := by
 unfold w64
 simp only [IntKind.wrap_i64]
 omega
theorem w64_one (a : Nat) : IntKind.i64.wrap (w64 a + 1) = w64 (a + 1) := by
 unfold w64
 simp only [IntKind.wrap_i64]
 omega
theorem w64_zero : w64 0 = 0 := by
 unfold w64
 simp [IntKind.wrap_i64]
theorem w64_small (a : Nat) (h : a < 9223372036854775808) : w64 a = a := by
 unfold w64
 simp only [IntKind.wrap_i64]
 omega
abbrev Ps := Nat → Option Nat
def ptV : Option Nat → Value
 | none => .pointer none
 | some b => .pointer (some ⟨b, 0, none⟩)
def pk (ps : Ps) : List Value := (List.range 16).map fun i => ptV (ps i)
def kn (kind : Int) (path val : Bs) (kid : Nat → Bs) (ps : Ps) (text sum : Bs) (many : Int) : List Value :=
 nd kind path val kid ++ (pk ps ++ [.string ⟨List.toArray text⟩, .string ⟨List.toArray sum⟩, .int .i64 many])
theorem pk_len (ps : Ps) : (pk ps).length = 16 := by simp [pk]
theorem kn_len (kind : Int) (path val : Bs) (kid : Nat → Bs) (ps : Ps) (text sum : Bs) (many : Int) : (kn kind path val kid ps text sum many).length = 38 := by
 simp [kn, nd_len, pk_len]
theorem pk_at (ps : Ps) (k : Nat) (hk : k < 16) : (pk ps)[k]? = some (ptV (ps k)) := by simp [pk, hk]
def noP : Ps := fun _ => none
def updP (f : Ps) (i : Nat) (x : Option Nat) : Ps := fun j => if j = i then x else f j
inductive KAt (w : World) : Tri → Option Nat → Prop
 | nil : KAt w .nil none
 | knot (t : Tri) (b : Nat) (ps : Ps) (h : t ≠ .nil) (hk : ∀ i, i < 16 → KAt w (kidsOf t i) (ps i))
   (hB : Blk w b (kn (kindT t) (pathT t) (valT t) (kidF fun i => sumT (kidsOf t i)) ps (textT t) (sumT t) (w64 (rp t).length)).toArray) : KAt w t (some b)
theorem KAt.keep {W w : World} (hb : Below W.heap.size W w) {t : Tri} {p : Option Nat} (h : KAt W t p) : KAt w t p := by
 induction h with
 | nil => exact .nil
 | knot t b ps h hk hB ih => exact .knot t b ps h ih (hB.keep hb)
theorem KAt.none' {w : World} {t : Tri} (h : KAt w t none) : t = .nil := by cases h; rfl
theorem KAt.some' {w : World} {t : Tri} {b : Nat} (h : KAt w t (some b)) : t ≠ .nil ∧ ∃ ps, (∀ i, i < 16 → KAt w (kidsOf t i) (ps i)) ∧
  Blk w b (kn (kindT t) (pathT t) (valT t) (kidF fun i => sumT (kidsOf t i)) ps (textT t) (sumT t) (w64 (rp t).length)).toArray := by
 cases h with
 | knot _ _ ps h hk hB => exact ⟨h, ps, hk, hB⟩
theorem KAt.isNil {w : World} {p : Option Nat} (h : KAt w .nil p) : p = none := by
 cases h with
 | nil => rfl
 | knot _ _ _ h _ _ => exact absurd rfl h
theorem KAt.isKnot {w : World} {t : Tri} {p : Option Nat} (h : KAt w t p) (hn : t ≠ .nil) : ∃ b, p = some b := by
 cases h with
 | nil => exact absurd rfl hn
 | knot _ b _ _ _ _ => exact ⟨b, rfl⟩
theorem kat_no (w : World) : ∀ i, i < 16 → KAt w (noT i) (noP i) := fun _ _ => .nil
theorem kat_upd {w : World} {f : Nat → Tri} {ps : Ps} (h : ∀ i, i < 16 → KAt w (f i) (ps i)) (k : Nat) {t : Tri} {p : Option Nat} (ht : KAt w t p) :
  ∀ i, i < 16 → KAt w (updT f k t i) (updP ps k p i) := by
 intro i hi
 unfold updT updP
 split
 ·exact ht
 ·exact h i hi
end Go.Proofs.YtjppbomngnomhaaGreatDoor
