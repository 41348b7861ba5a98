/- Hash, Sum, Ref3K, Ref3. -/
import Derived.Test.YtjppbomngnomhaaGreatDoorMx5
set_option linter.unnecessarySimpa false
set_option linter.unusedSimpArgs false
set_option linter.unusedVariables false
set_option maxRecDepth 100000
set_option maxHeartbeats 32000000
namespace Go.Proofs.YtjppbomngnomhaaGreatDoor
open Go.RowKit
def blkB (l : List UInt8) (n : Nat) : Nat → Int := fun i => (((l.drop (64 * n)).getD i 0).toNat : Int)
def blkN (g : Nat → Int) (l : List UInt8) : Nat → Nat → Int
 | 0 => g
 | n + 1 => blk (blkN g l n) (blkB l n)
theorem blkN_bd (g : Nat → Int) (l : List UInt8) (hg : ∀ i, W32 (g i)) (n : Nat) : ∀ i, W32 (blkN g l n i) := by
 cases n with
 | zero => exact hg
 | succ n => exact fun i => blk_bd _ _ i
theorem blkB_bd (l : List UInt8) (n i : Nat) : 0 ≤ blkB l n i ∧ blkB l n i < 256 := by
 unfold blkB
 have := ((l.drop (64 * n)).getD i 0).toNat_lt
 omega
theorem bytes_range {w : World} {p off : Nat} {m : List UInt8} (h : BSrc w p off m) (hm : 64 ≤ m.length) (f : Nat → Int) (hf : ∀ i, i < 64 → f i = ((m.getD i 0).toNat : Int)) : w.rangeAt p off (arb 64 f) := by
 intro j v hv
 have hj : j < 64 := by
  rcases Nat.lt_or_ge j 64 with hlt | hge
  ·exact hlt
  ·rw [List.getElem?_eq_none (by simp; omega)] at hv; cases hv
 have h2 := arb_at 64 f j hj
 rw [h j (by omega)]
 rw [List.getElem?_toArray] at h2
 rw [h2] at hv
 rw [← hf j hj]
 exact hv
theorem wpStill_rowLoadAt {P : Program} {T : TypeId} {n : Nat} {ops : Array Oper} {rest : List Oper} {op : Oper} {a : Act} {w : World} {Q : Act → Prop} (hT : RowT P T n) (hgd : op.guard = none) (x : Operand) (ho : op.op = .load T x) {b off : Nat}
  (hx : a.eval x = .pointer (some ⟨b, off, none⟩)) {vs : List Value} (hl : vs.length = n) (hr : w.rangeAt b off vs) (h : wpStill P ops w Q rest (a.put op.dst (.agg vs.toArray))) : wpStill P ops w Q (op :: rest) a := by
 obtain ⟨⟨d, h1, h2⟩, h3⟩ := hT
 unfold wpStill
 rw [if_pos (by simp [Region.wanted, hgd])]
 unfold Oper.still execOp
 simp only [ho, hx, Instr.loadAt, Instr.sureAddr, Sem.run_bind, Sem.run_pure, Result.andThen_ok, run_loadVar_mid w b off T vs d hr h1 h2 (by rw [hl]; exact h3)]
 exact ⟨rfl, h⟩
theorem wpStill_arrayAt {ops : Array Oper} {rest : List Oper} {op : Oper} {a : Act} {w : World} {Q : Act → Prop} (hgd : op.guard = none) (x : Operand) (ho : op.op = .sliceToArrayPointer 120 x) {ad : Option Addr} {n c : Nat}
  (hx : a.eval x = .slice ad n c) (hn : 64 ≤ n) (h : wpStill Tryz.prog ops w Q rest (a.put op.dst (.pointer ad))) : wpStill Tryz.prog ops w Q (op :: rest) a := by
 unfold wpStill
 rw [if_pos (by simp [Region.wanted, hgd])]
 unfold Oper.still execOp
 simp only [ho, hx, Instr.arrayAt, Sem.run_bind, Result.andThen_ok, run_underlying Tryz.underlying120]
 rw [if_neg (by omega)]
 simp only [Sem.run_pure, Result.andThen_ok]
 exact ⟨rfl, h⟩
def BSo (B : Nat) (w : World) (v : Value) (l : List UInt8) : Prop :=
 (v = .slice none 0 0 ∧ l = []) ∨ ∃ g off cap, v = .slice (some ⟨g, off, none⟩) l.length cap ∧ l.length ≤ cap ∧ cap ≤ maxLen ∧ g < B ∧ BSrc w g off l
theorem BSo.bs {B : Nat} {w : World} {v : Value} {l : List UInt8} (h : BSo B w v l) (hB : B ≤ w.heap.size) : BS w v l :=
 h.imp id fun ⟨g, off, cap, h1, h2, h3, h4, h5⟩ => ⟨g, off, cap, h1, h2, h3, Nat.lt_of_lt_of_le h4 hB, h5⟩
theorem BSo.keep {B : Nat} {W w : World} {v : Value} {l : List UInt8} (h : BSo B W v l) (hb : Below B W w) : BSo B w v l :=
 h.imp id fun ⟨g, off, cap, h1, h2, h3, h4, h5⟩ => ⟨g, off, cap, h1, h2, h3, h4, fun i hi => (hb.cell (p := ⟨g, off + i, none⟩) h4).trans (h5 i hi)⟩
@[go_sem, simp] theorem arr_get (n : Nat) (f : Nat → Int) (i : Nat) (h : i < n) : (arr n f)[i]? = some (.int .u32 (f i)) := by
 have := arr_at n f i h
 rwa [List.getElem?_toArray] at this
@[go_sem, simp] theorem arr_getE (n : Nat) (f : Nat → Int) (i : Nat) (h : i < (arr n f).length) : (arr n f)[i]'h = .int .u32 (f i) := by simp [arr]
theorem arr8_filled (z f : Nat → Int) : arr 8 (updI (updI (updI (updI (updI (updI (updI (updI z 0 (f 0)) 1 (f 1)) 2 (f 2)) 3 (f 3)) 4 (f 4)) 5 (f 5)) 6 (f 6)) 7 (f 7)) = arr 8 f := by
 apply arr_ext
 intro i hi
 have hc : i = 0 ∨ i = 1 ∨ i = 2 ∨ i = 3 ∨ i = 4 ∨ i = 5 ∨ i = 6 ∨ i = 7 := by omega
 rcases hc with rfl | rfl | rfl | rfl | rfl | rfl | rfl | rfl <;> rfl
theorem results_cellT {P : Program} {fn : Func} {a b : Nat} {t : TypeId} (h : fn.results = #[.cell a t, .tmp b]) (tmps : Array Value) (w : World) (p : Addr) (v : Value) (hp : tmps.getD a undef = .pointer (some p)) (hl : (loadVar t p).run P w = .ok v w) :
  (results fn tmps).run P w = .ok (.tuple #[v, tmps.getD b undef]) w := by
 unfold results
 rw [h]
 rw [Array.getD_eq_getD_getElem?] at hp
 simp [hp, asAddr, hl, Sem.run_bind]
def lenS : Value → Nat
 | .slice _ n _ => n
 | _ => 0
def BlocksPost (W : World) (g : Nat → Int) (l : List UInt8) (e : Ending) (w' : World) : Prop :=
 ∃ v', e = .returned (.tuple #[.agg (arr 8 (blkN g l (l.length / 64))).toArray, v']) ∧ BRow w' W.heap.size v' (l.drop (64 * (l.length / 64))) ∧ Below W.heap.size W w'
theorem blocks_any (g : Nat → Int) (hg : ∀ i, W32 (g i)) (v : Value) (l : List UInt8) (hl : l.length ≤ 1099511627776) (w : World) (hv : BS w v l) (hk0 : KT w) :
  Calls Tryz.prog 124 #[.agg (arr 8 g).toArray, v] w (BlocksPost w g l) := by
 have HG := Lib.hid hg
 clear hg
 go_enter Tryz.func124, Tryz.ntmps124
 go_wp2_with fail
 go_loopw [1] (fun s1 wr => ∃ n : Nat, 64 * n ≤ l.length ∧ BSo w.heap.size wr s1 (l.drop (64 * n)) ∧ Blk wr w.heap.size (arr 8 (blkN g l n)).toArray ∧ Blk wr (w.heap.size + 1) (arr 8 fun _ => 0).toArray ∧ Below w.heap.size w wr) (fun s1 _ => lenS s1)
 case atStart =>
  rw [zero8w]
  exact ⟨0, by omega, (show BSo w.heap.size w v (l.drop 0) from hv).keep (Below.allocS (Below.allocS (Below.refl _ _) _) _), (Blk.new w _ _).alloc _, Blk.new' (by simp), by (repeat (first | exact Below.refl _ _ | assumption | apply Below.drew | apply below_drewN | apply Below.allocS | (refine Below.setCell ?_ (by simp <;> omega) _) | (refine Below.alloc ?_ (by simp <;> omega) _) | (refine Below.trans ?_ (Below.mono (by assumption) (by simp <;> omega)))))⟩
 case round =>
  obtain ⟨n, hn, S, B, Z, hb⟩ := hrel
  rename_i wr
  clear hv
  have hml : (l.drop (64 * n)).length = l.length - 64 * n := by simp
  rcases id S with ⟨rfl, hm⟩ | ⟨p, off, cap, rfl, h1, h2, h3, h4⟩
  ·have hn2 : l.length / 64 = n := by
    have := congrArg List.length hm
    simp at this
    omega
   have HP : Hid (BlocksPost w g l = fun e w' => ∃ v', e = .returned (.tuple #[.agg (arr 8 (blkN g l n)).toArray, v']) ∧ BRow w' w.heap.size v' (l.drop (64 * n)) ∧ Below w.heap.size w w') := Lib.hid (by unfold BlocksPost; rw [hn2])
   have hm0 : (l.drop (64 * n)).length = 0 := by rw [hm]; rfl
   have hml2 : (l.drop (64 * n)).length ≤ 0 := by omega
   clear hn2 hml hm hm0
   obtain ⟨bc, bf, bl⟩ := id B
   obtain ⟨zc, zf, zl⟩ := id Z
   have HS := S.bs hb.size
   have HS2 := Lib.hid HS
   clear HS S
   generalize l.drop (64 * n) = m at *
   have hml' : m.length ≤ 64 := by omega
   go_wp2_with fail
   go_region_law (refine step_appBS rfl (.const (.slice none 0 0)) (.tmp 18) rfl wr.heap.size (.slice none 0 0) [] rfl (BRow.nil _ _) _ m rfl HS2.out (by simp; omega) (by simp) ?_; rintro v' w2 hB2 hg2; have hb2 := grown_nil hg2; have B2 := B.drew.keep hb2; have Z2 := Z.drew.keep hb2; obtain ⟨bc2, bf2, bl2⟩ := id B2; obtain ⟨zc2, zf2, zl2⟩ := id Z2)
   all_goals
    go_wp2_with fail
    have R := ((((((((Z2).set 0 (.int .u32 (blkN g l n 0))).set 1 (.int .u32 (blkN g l n 1))).set 2 (.int .u32 (blkN g l n 2))).set 3 (.int .u32 (blkN g l n 3))).set 4 (.int .u32 (blkN g l n 4))).set 5 (.int .u32 (blkN g l n 5))).set 6 (.int .u32 (blkN g l n 6))).set 7 (.int .u32 (blkN g l n 7))
    simp only [arr_set] at R
    rw [arr8_filled] at R
    refine bodyPost_ret (results_cellT rfl _ _ _ _ rfl (row_loadVar row8w _ (arr_len 8 _) R)) rfl ?_
    rw [HP.out]
    have hb3 : Below w.heap.size w w2 := hb.drew.trans (hb2.mono (by simp; exact hb.size))
    refine ⟨v', rfl, BRow.mono (hB2.kept (fun k hk => ?_)) (by omega), (((((((hb3.setCell (by simp) _).setCell (by simp) _).setCell (by simp) _).setCell (by simp) _).setCell (by simp) _).setCell (by simp) _).setCell (by simp) _).setCell (by simp) _⟩
    have hk2 := (ownBlock_lt hB2 k hk).1
    have hne : k ≠ w.heap.size + 1 := by omega
    have hne2 : w.heap.size + 1 ≠ k := by omega
    rw [Below.heap_setCell _ _ _ _ hne, Below.heap_setCell _ _ _ _ hne, Below.heap_setCell _ _ _ _ hne, Below.heap_setCell _ _ _ _ hne, Below.heap_setCell _ _ _ _ hne, Below.heap_setCell _ _ _ _ hne, Below.heap_setCell _ _ _ _ hne, Below.heap_setCell _ _ _ _ hne]
  ·by_cases hge : 64 ≤ (l.drop (64 * n)).length
   ·have hbd : ∀ i, i < 64 → blkB l n i = (((l.drop (64 * n)).getD i 0).toNat : Int) := fun i hi => rfl
    have HN : Hid (blkN g l (n + 1) = blk (blkN g l n) (blkB l n)) := Lib.hid rfl
    have HB := Lib.hid (blkN_bd g l HG.out n)
    have HBB := Lib.hid (blkB_bd l n)
    have HHB := Lib.hid hbd
    have HD : Hid (l.drop (64 * (n + 1)) = (l.drop (64 * n)).drop 64) := Lib.hid (by rw [List.drop_drop]; congr 1)
    clear hbd
    have H4 := Lib.hid h4
    clear h4
    have Hml := Lib.hid hml
    clear hml
    generalize l.drop (64 * n) = m at *
    generalize blkN g l n = f at *
    generalize blkB l n = bb at *
    have hge' : (64 : Int) ≤ (m.length : Int) := by omega
    have hcap : (64 : Int) ≤ (cap : Int) := by omega
    unfold maxLen at h2
    go_wp2_with fail
    refine wp_tail 5 (by kernel_rfl) (by kernel_rfl) ?_
    intro w2 hw2
    have B2 : Blk w2 w.heap.size (arr 8 f).toArray := by rw [hw2]; exact B.drew
    have Z2 : Blk w2 (w.heap.size + 1) (arr 8 fun _ => 0).toArray := by rw [hw2]; exact Z.drew
    have S2 : BSrc w2 p off m := by rw [hw2]; exact H4.out.drew
    have hb2 : Below w.heap.size w w2 := by rw [hw2]; exact hb.drew
    have hp2 : p < w2.heap.size := Nat.lt_of_lt_of_le h3 hb2.size
    clear hw2
    simp only [List.take_succ_cons, List.take_zero, List.drop_succ_cons, List.drop_zero]
    refine wpStill_rowLoadAt row8w rfl (.tmp 2) rfl rfl (arr_len 8 f) B2.range ?_
    repeat still_step
    refine wpStill_arrayAt rfl (.tmp 11) rfl rfl (by omega) ?_
    refine wpStill_rowLoadAt row64b rfl (.tmp 12) rfl rfl (arb_len 64 bb) (bytes_range S2 hge bb HHB.out) ?_
    refine wpStill_nil ?_
    go_wp2_with fail
    refine (block_any f bb HB.out (fun i _ => HBB.out i) _ (hk0.keep hb2)).mono ?_
    rintro e w3 ⟨rfl, hb3⟩
    have B3 := B2.keep hb3
    have Z3 := Z2.keep hb3
    have S3 : BSrc w3 p off m := fun i hi => (hb3.cell (p := ⟨p, off + i, none⟩) hp2).trans (S2 i hi)
    have hp3 : p < w3.heap.size := Nat.lt_of_lt_of_le hp2 hb3.size
    have hb4 := hb2.trans (hb3.mono hb2.size)
    clear B2 Z2 S2 hb2 hb3 hp2
    by_cases hc : cap = 64
    ·subst hc
     have hm64 : m.length = 64 := by omega
     go_wp2_with (refine wpList_rowStore row8w rfl rfl (.tmp 2) (.tmp 14) rfl rfl rfl (arr_len 8 _) (arr_one 8 _) (arr_len 8 _) B3 ?_; intro w4 B4 m4)
     have S4 : BSrc w4 p off m := fun i hi => (World.cell?_of_block (w := w3) (m4.block p hp3 (by simp; omega))).trans (S3 i hi)
     have hb5 := Below.mod hb4 m4 (by have := B3.lt; omega) (by simp)
     exact ⟨⟨n + 1, by have := Hml.out; omega, .inr ⟨p, off, 0, by rw [HD.out]; simp [hm64], by rw [HD.out]; simp [hm64], by omega, h3, fun i hi => by rw [HD.out] at hi; simp [hm64] at hi⟩, by rw [HN.out]; exact B4, Z3.mod m4 (by simp), hb5⟩, by simp [lenS]; omega⟩
    ·have hcap2 : ¬ (cap : Int) = 64 := by omega
     go_wp2_with (refine wpList_rowStore row8w rfl rfl (.tmp 2) (.tmp 14) rfl rfl rfl (arr_len 8 _) (arr_one 8 _) (arr_len 8 _) B3 ?_; intro w4 B4 m4)
     have S4 : BSrc w4 p off m := fun i hi => (World.cell?_of_block (w := w3) (m4.block p hp3 (by simp; omega))).trans (S3 i hi)
     have hb5 := Below.mod hb4 m4 (by have := B3.lt; omega) (by simp)
     have hdl : (m.drop 64).length = m.length - 64 := by simp
     exact ⟨⟨n + 1, by have := Hml.out; omega, .inr ⟨p, off + 64, cap - 64, by rw [HD.out, hdl], by rw [HD.out, hdl]; omega, by unfold maxLen; omega, h3, fun i hi => by
      rw [HD.out] at hi ⊢
      have h := S4 (64 + i) (by omega)
      rw [← Nat.add_assoc] at h
      rw [h]
      simp [List.getD]⟩, by rw [HN.out]; exact B4, Z3.mod m4 (by simp), hb5⟩, by simp [lenS]; omega⟩
   ·have hn2 : l.length / 64 = n := by omega
    have hlt : ¬ (64 : Int) ≤ ((l.drop (64 * n)).length : Int) := by omega
    have HP : Hid (BlocksPost w g l = fun e w' => ∃ v', e = .returned (.tuple #[.agg (arr 8 (blkN g l n)).toArray, v']) ∧ BRow w' w.heap.size v' (l.drop (64 * n)) ∧ Below w.heap.size w w') := Lib.hid (by unfold BlocksPost; rw [hn2])
    clear hn2 hml h4
    obtain ⟨bc, bf, bl⟩ := id B
    obtain ⟨zc, zf, zl⟩ := id Z
    have HS := S.bs hb.size
    have HS2 := Lib.hid HS
    clear HS S
    generalize l.drop (64 * n) = m at *
    have hml' : m.length ≤ 64 := by omega
    go_wp2_with fail
    go_region_law (refine step_appBS rfl (.const (.slice none 0 0)) (.tmp 18) rfl wr.heap.size (.slice none 0 0) [] rfl (BRow.nil _ _) _ m rfl HS2.out (by simp; omega) (by simp) ?_; rintro v' w2 hB2 hg2; have hb2 := grown_nil hg2; have B2 := B.drew.keep hb2; have Z2 := Z.drew.keep hb2; obtain ⟨bc2, bf2, bl2⟩ := id B2; obtain ⟨zc2, zf2, zl2⟩ := id Z2)
    all_goals
     go_wp2_with fail
     have R := ((((((((Z2).set 0 (.int .u32 (blkN g l n 0))).set 1 (.int .u32 (blkN g l n 1))).set 2 (.int .u32 (blkN g l n 2))).set 3 (.int .u32 (blkN g l n 3))).set 4 (.int .u32 (blkN g l n 4))).set 5 (.int .u32 (blkN g l n 5))).set 6 (.int .u32 (blkN g l n 6))).set 7 (.int .u32 (blkN g l n 7))
     simp only [arr_set] at R
     rw [arr8_filled] at R
     refine bodyPost_ret (results_cellT rfl _ _ _ _ rfl (row_loadVar row8w _ (arr_len 8 _) R)) rfl ?_
     rw [HP.out]
     have hb3 : Below w.heap.size w w2 := hb.drew.trans (hb2.mono (by simp; exact hb.size))
     refine ⟨v', rfl, BRow.mono (hB2.kept (fun k hk => ?_)) (by omega), (((((((hb3.setCell (by simp) _).setCell (by simp) _).setCell (by simp) _).setCell (by simp) _).setCell (by simp) _).setCell (by simp) _).setCell (by simp) _).setCell (by simp) _⟩
     have hk2 := (ownBlock_lt hB2 k hk).1
     have hne : k ≠ w.heap.size + 1 := by omega
     have hne2 : w.heap.size + 1 ≠ k := by omega
     rw [Below.heap_setCell _ _ _ _ hne, Below.heap_setCell _ _ _ _ hne, Below.heap_setCell _ _ _ _ hne, Below.heap_setCell _ _ _ _ hne, Below.heap_setCell _ _ _ _ hne, Below.heap_setCell _ _ _ _ hne, Below.heap_setCell _ _ _ _ hne, Below.heap_setCell _ _ _ _ hne]
end Go.Proofs.YtjppbomngnomhaaGreatDoor
namespace Go.Proofs.YtjppbomngnomhaaGreatDoor
open Go.RowKit
def be8 (x : Nat) : List UInt8 := (List.range 8).map fun i => UInt8.ofNat (x / 2 ^ (56 - 8 * i) % 256)
def zer (n : Nat) : Nat := (119 - n % 64) % 64
def padEnd (n : Nat) : List UInt8 := 128 :: List.replicate (zer n) 0 ++ be8 (8 * n)
def padP (s : List UInt8) : List UInt8 := s ++ padEnd s.length
def sumP (s : List UInt8) : List UInt8 := toldP (blkN firstW (padP s) ((padP s).length / 64))
theorem sumP_len (s : List UInt8) : (sumP s).length = 32 := toldP_len _
theorem be8_len (x : Nat) : (be8 x).length = 8 := by simp [be8]
theorem be_val (n k : Nat) : ((n : Int) * 8 / 2 ^ k % 256) = ((UInt8.ofNat (8 * n / 2 ^ k % 256)).toNat : Int) := by
 have h1 : 8 * n / 2 ^ k % 256 < 256 := Nat.mod_lt _ (by omega)
 have h2 : (UInt8.ofNat (8 * n / 2 ^ k % 256)).toNat = 8 * n / 2 ^ k % 256 := by simp
 rw [h2, Int.natCast_emod, Int.natCast_ediv, Int.natCast_mul, Int.natCast_pow, Int.mul_comm (n : Int) 8]
 rfl
theorem padEnd_len (n : Nat) : (padEnd n).length = 9 + zer n := by simp [padEnd, be8_len]; omega
theorem sch_lo (b : Nat → Int) (i : Nat) (h : i < 16) : sch b i = word4 b i := by rw [sch, dif_pos h]
theorem sch_hi (b : Nat → Int) (i : Nat) (h : ¬ i < 16) : sch b i = (sch b (i - 16) + sg0 (sch b (i - 15)) + sch b (i - 7) + sg1 (sch b (i - 2))) % 4294967296 := by rw [sch, dif_neg h]
theorem sch_of {b b' : Nat → Int} (h : ∀ j, j < 64 → b j = b' j) (i : Nat) : sch b i = sch b' i := by
 induction i using Nat.strongRecOn with
 | _ i ih =>
  by_cases hi : i < 16
  ·rw [sch_lo b i hi, sch_lo b' i hi, word4, word4, h _ (by omega), h _ (by omega), h _ (by omega), h _ (by omega)]
  ·rw [sch_hi b i hi, sch_hi b' i hi, ih (i - 16) (by omega), ih (i - 15) (by omega), ih (i - 7) (by omega), ih (i - 2) (by omega)]
theorem rds_of (g : Nat → Int) {b b' : Nat → Int} (h : ∀ j, j < 64 → b j = b' j) : ∀ n, rds g b n = rds g b' n
 | 0 => rfl
 | n + 1 => by rw [rds, rds, rds_of g h n, sch_of h]
theorem blk_of {g : Nat → Int} {b b' : Nat → Int} (h : ∀ j, j < 64 → b j = b' j) : blk g b = blk g b' := by
 funext i
 unfold blk
 rw [rds_of g h]
theorem blkN_app (g : Nat → Int) (a b : List UInt8) : ∀ n, 64 * n ≤ a.length → blkN g (a ++ b) n = blkN g a n
 | 0, _ => rfl
 | n + 1, h => by
  rw [blkN, blkN, blkN_app g a b n (by omega)]
  funext i
  have : ∀ j, j < 64 → blkB (a ++ b) n j = blkB a n j := by
   intro j hj
   unfold blkB
   rw [List.drop_append_of_le_length (by omega)]
   rw [List.getD_eq_getElem?_getD, List.getD_eq_getElem?_getD, List.getElem?_append_left (by simp; omega)]
  exact congrFun (blk_of this) i
theorem blkN_add (g : Nat → Int) (l : List UInt8) (m : Nat) : ∀ n, blkN g l (m + n) = blkN (blkN g l m) (l.drop (64 * m)) n
 | 0 => rfl
 | n + 1 => by
  rw [← Nat.add_assoc, blkN, blkN, blkN_add g l m n]
  have : blkB l (m + n) = blkB (l.drop (64 * m)) n := by
   funext i
   unfold blkB
   rw [List.drop_drop]
   congr 4; omega
  rw [this]
theorem sum_two (s : List UInt8) : sumP s = toldP (blkN (blkN firstW s (s.length / 64)) (s.drop (64 * (s.length / 64)) ++ padEnd s.length) ((s.drop (64 * (s.length / 64)) ++ padEnd s.length).length / 64)) := by
 unfold sumP
 have hl : (padP s).length = s.length + (9 + zer s.length) := by simp [padP, padEnd_len]
 have hl2 : (s.drop (64 * (s.length / 64)) ++ padEnd s.length).length = s.length - 64 * (s.length / 64) + (9 + zer s.length) := by simp [padEnd_len]
 have hd : (padP s).length / 64 = s.length / 64 + (s.drop (64 * (s.length / 64)) ++ padEnd s.length).length / 64 := by rw [hl, hl2]; omega
 rw [hd, blkN_add]
 congr 2
 ·exact blkN_app _ _ _ _ (by omega)
 ·unfold padP
  rw [List.drop_append_of_le_length (by omega)]
def hcells (f : Nat → Int) (v : Value) (n : Int) : List Value := arr 8 f ++ [v, .int .i64 n]
theorem hcells_lit (f : Nat → Int) (v : Value) (n : Int) : (hcells f v n).toArray = #[.int .u32 (f 0), .int .u32 (f 1), .int .u32 (f 2), .int .u32 (f 3), .int .u32 (f 4), .int .u32 (f 5), .int .u32 (f 6), .int .u32 (f 7), v, .int .i64 n] := rfl
theorem new_any (w : World) : Calls Tryz.prog 97 #[] w fun e w' => ∃ p, w.heap.size ≤ p ∧ e = .returned (.pointer (some ⟨p, 0, none⟩)) ∧ Blk w' p (hcells firstW (.slice none 0 0) 0).toArray ∧ Below w.heap.size w w' := by
 go_enter Tryz.func97, Tryz.ntmps97
 go_wp2_with fail
 refine (first_any _).mono ?_
 rw [first_lit]
 rintro e w1 ⟨rfl, hb⟩
 go_wp2_with fail
 go_ret
 exact ⟨w1.heap.size, hb.size, rfl, Blk.new' rfl, Below.allocS hb _⟩
theorem app8 (f : Nat → Int) : #[Value.int .u32 (f 0), .int .u32 (f 1), .int .u32 (f 2), .int .u32 (f 3), .int .u32 (f 4), .int .u32 (f 5), .int .u32 (f 6), .int .u32 (f 7)] = (arr 8 f).toArray := rfl
theorem blocks_lit (g : Nat → Int) (hg : ∀ i, W32 (g i)) (v : Value) (l : List UInt8) (hl : l.length ≤ 1099511627776) (ff : Nat → Int) (tl : List UInt8) (h1 : blkN g l (l.length / 64) = ff) (h2 : l.drop (64 * (l.length / 64)) = tl) (w : World) (hv : BS w v l) (hk0 : KT w) :
  Calls Tryz.prog 124 #[.agg (arr 8 g).toArray, v] w fun e w' => ∃ a c, e = .returned (.tuple #[.agg #[.int .u32 (ff 0), .int .u32 (ff 1), .int .u32 (ff 2), .int .u32 (ff 3), .int .u32 (ff 4), .int .u32 (ff 5), .int .u32 (ff 6), .int .u32 (ff 7)], .slice a tl.length c]) ∧
   BRow w' w.heap.size (.slice a tl.length c) tl ∧ Below w.heap.size w w' := by
 subst h1 h2
 refine (blocks_any g hg v l hl w hv hk0).mono ?_
 rintro e w3 ⟨v3, rfl, hB3, hb3⟩
 obtain ⟨a, c, hv3⟩ := hB3.bs.len
 subst hv3
 exact ⟨a, c, rfl, hB3, hb3⟩
def WritePost (W : World) (p : Nat) (s : List UInt8) (e : Ending) (w' : World) : Prop :=
 ∃ v', e = .returned (.tuple #[]) ∧ Blk w' p (hcells (blkN firstW s (s.length / 64)) v' s.length).toArray ∧ BRow w' W.heap.size v' (s.drop (64 * (s.length / 64))) ∧ Mod [p] W w'
theorem write_any (p : Nat) (s : List UInt8) (hs : s.length ≤ 1099511627776) (w : World) (hk : KT w) (hp : p ≠ 0) (P : Blk w p (hcells firstW (.slice none 0 0) 0).toArray) :
  Calls Tryz.prog 98 #[.pointer (some ⟨p, 0, none⟩), .string ⟨List.toArray s⟩] w (WritePost w p s) := by
 have P1 := P.set 9 (.int .i64 (s.length : Int))
 rw [hcells_lit] at P P1
 obtain ⟨pc, pf, pl⟩ := id P
 have hw1 : Mod [p] w (w.setCell ⟨p, 9, none⟩ (.int .i64 (s.length : Int))) := (Mod.refl _ _).setCell (.inl (by simp)) _
 have HP : Hid (WritePost w p s = fun e w' => ∃ v', e = .returned (.tuple #[]) ∧ Blk w' p (hcells (blkN firstW s (s.length / 64)) v' s.length).toArray ∧ BRow w' w.heap.size v' (s.drop (64 * (s.length / 64))) ∧ Mod [p] w w') := Lib.hid rfl
 have HBL := fun (ff : Nat → Int) (tl : List UInt8) h1 h2 v => blocks_lit firstW firstW_bd v s hs ff tl h1 h2
 replace HBL := HBL _ _ rfl rfl
 generalize blkN firstW s (s.length / 64) = ff at *
 generalize s.drop (64 * (s.length / 64)) = tl at *
 have HBH := Lib.hid HBL
 clear HBL
 go_enter Tryz.func98, Tryz.ntmps98
 go_wp2_with fail
 have hk1 : KT (w.setCell ⟨p, 9, none⟩ (.int .i64 (s.length : Int))) := ⟨fun i hi => by rw [World.cell?_setCell_other w _ _ _ (fun e => hp (by injection e))]; exact hk.cell i hi, by simpa [World.setCell] using hk.lt⟩
 have hsz : (w.setCell ⟨p, 9, none⟩ (.int .i64 (s.length : Int))).heap.size = w.heap.size := by simp [World.setCell]
 have P1' : Blk (w.setCell ⟨p, 9, none⟩ (.int .i64 (s.length : Int))) p #[.int .u32 (firstW 0), .int .u32 (firstW 1), .int .u32 (firstW 2), .int .u32 (firstW 3), .int .u32 (firstW 4), .int .u32 (firstW 5), .int .u32 (firstW 6), .int .u32 (firstW 7), .slice none 0 0, .int .i64 (s.length : Int)] := P1
 clear P1 P pc pf
 generalize w.setCell ⟨p, 9, none⟩ (.int .i64 (s.length : Int)) = w1 at *
 have HSZ := Lib.hid hsz
 clear hsz
 obtain ⟨pc, pf, pl1⟩ := id P1'
 go_region_law (first
  | (refine step_appBT rfl (.tmp 23) (.tmp 24) rfl w1.heap.size (.slice none 0 0) [] rfl (BRow.nil _ _) s rfl (by simp; omega) (by simp) ?_; rintro v' w2 hB2 hg2; have hb2 := grown_nil hg2; have P2 := P1'.drew.keep hb2; obtain ⟨pc2, pf2, pl2⟩ := id P2)
  | (go_simp; go_at_call 124; refine (HBH.out _ _ ?hbs ?hkk).mono ?_; (case hbs => exact hB2.bs); (case hkk => exact KT.keep (W := w1.drew) ⟨hk1.cell, hk1.lt⟩ hb2); rintro e w3 ⟨a3, c3, rfl, hB3, hb3⟩; have P3 := P2.keep hb3; obtain ⟨pc3, pf3, pl3⟩ := id P3))
 all_goals go_wp2_with fail
 all_goals
  refine bodyPost_end (results_none rfl _ _ _) rfl ?_
  rw [HP.out]
  refine ⟨.slice a3 tl.length c3, rfl, ?_, ?_, ?_⟩
  ·have Q := (((((((((P3.set 0 (.int .u32 (ff 0))).set 1 (.int .u32 (ff 1))).set 2 (.int .u32 (ff 2))).set 3 (.int .u32 (ff 3))).set 4 (.int .u32 (ff 4))).set 5 (.int .u32 (ff 5))).set 6 (.int .u32 (ff 6))).set 7 (.int .u32 (ff 7))).set 8 (.slice a3 tl.length c3))
   simp only [List.setIfInBounds_toArray, List.set_cons_zero, List.set_cons_succ] at Q
   rw [hcells_lit]
   exact Q
  ·refine BRow.mono (hB3.kept (fun k hk => ?_)) (Nat.le_trans (show w.heap.size ≤ w1.drew.heap.size from by rw [← HSZ.out]; exact Nat.le_refl _) hb2.size)
   have hne : k ≠ p := by have := (ownBlock_lt hB3 k hk).1; omega
   rw [Below.heap_setCell _ _ _ _ hne, Below.heap_setCell _ _ _ _ hne, Below.heap_setCell _ _ _ _ hne, Below.heap_setCell _ _ _ _ hne, Below.heap_setCell _ _ _ _ hne, Below.heap_setCell _ _ _ _ hne, Below.heap_setCell _ _ _ _ hne, Below.heap_setCell _ _ _ _ hne, Below.heap_setCell _ _ _ _ hne]
  ·exact (((((((((((hw1.drew.trans (Mod.of_below hb2)).trans (Mod.of_below hb3)).setCell (.inl (by simp)) _).setCell (.inl (by simp)) _).setCell (.inl (by simp)) _).setCell (.inl (by simp)) _).setCell (.inl (by simp)) _).setCell (.inl (by simp)) _).setCell (.inl (by simp)) _).setCell (.inl (by simp)) _).setCell (.inl (by simp)) _)
theorem hsum_any (p : Nat) (f : Nat → Int) (hf : ∀ i, W32 (f i)) (v : Value) (t : List UInt8) (n : Nat) (hn : n ≤ 1099511627776) (ht : t.length < 64) (hmod : t.length % 64 = n % 64) (w : World) (hk : KT w) (P : Blk w p (hcells f v n).toArray) (hv : BS w v t) :
  Calls Tryz.prog 99 #[.pointer (some ⟨p, 0, none⟩)] w fun e w' => e = .returned (.string ⟨List.toArray (toldP (blkN f (t ++ padEnd n) ((t ++ padEnd n).length / 64)))⟩) ∧ Below w.heap.size w w' := by
 generalize hR : toldP (blkN f (t ++ padEnd n) ((t ++ padEnd n).length / 64)) = R
 have HR := Lib.hid hR
 clear hR
 obtain ⟨a, c, hvs⟩ := hv.len
 subst hvs
 rw [hcells_lit] at P
 obtain ⟨pc, pf, pl⟩ := id P
 have HV := Lib.hid hv
 clear hv
 go_enter Tryz.func99, Tryz.ntmps99
 go_wp2_with (first
  | (refine wpList_appBS rfl (.const (.slice none 0 0)) (.tmp 11) rfl w.heap.size (.slice none 0 0) [] rfl (BRow.nil _ _) _ t rfl HV.out (by simp; omega) (by simp) ?_; rintro v1 w1 hB1 hg1; have hb1 := grown_nil hg1; clear hg1)
  | (refine wpList_appB rfl (.tmp 13) (.tmp 14) rfl w.heap.size _ ([] ++ t) rfl (hB1.alloc _) w1.heap.size 0 1 1 [128] rfl rfl (bsrc1 _ _ _ _ rfl) (by simp; omega) (by have := hb1.size; simp; omega) ?_; rintro v2 w2 hB2 hb2))
 have hb3 : Below w.heap.size w w2 := (Below.allocS hb1 _).trans hb2
 have hB3 : BRow w2 w.heap.size v2 (t ++ 128 :: List.replicate 0 0) := by simpa using hB2
 clear hB2 hB1 hb2 hb1
 go_loopw [3] (fun s3 wr => ∃ j : Nat, j ≤ zer n ∧ BRow wr w.heap.size s3 (t ++ 128 :: List.replicate j 0) ∧ Below w.heap.size w wr) (fun s3 _ => t.length + 1 + zer n - lenS s3)
 case atStart => exact ⟨0, by omega, hB3, hb3⟩
 case round =>
  clear hB3 hb3
  obtain ⟨j, hj, hB, hb⟩ := hrel
  rename_i wr
  obtain ⟨a2, c2, hvs⟩ := hB.bs.len
  subst hvs
  have hll : (t ++ 128 :: List.replicate j (0 : UInt8)).length = t.length + 1 + j := by simp; omega
  have hzd : zer n = (119 - n % 64) % 64 := rfl
  by_cases hlt : j < zer n
  ·have hrem : (((t ++ 128 :: List.replicate j (0 : UInt8)).length : Int) % 64 == 56) = false := by rw [hll]; simp; omega
   have hl2 : (t ++ 128 :: List.replicate j (0 : UInt8)).length ≤ 1000 := by omega
   have HN : Hid (t ++ 128 :: List.replicate (j + 1) 0 = (t ++ 128 :: List.replicate j 0) ++ [0]) := Lib.hid (by simp [List.replicate_succ'])
   have HLL := Lib.hid hll
   clear hll hzd
   generalize t ++ 128 :: List.replicate j (0 : UInt8) = m at *
   go_wp2_with (refine wpList_appB rfl (.tmp 20) (.tmp 21) rfl w.heap.size _ m rfl (hB.alloc _) wr.heap.size 0 1 1 [0] rfl rfl (bsrc1 _ _ _ _ rfl) (by omega) (by have := hb.size; simp; omega) ?_; rintro v3 w3 hB3 hb3)
   obtain ⟨a3, c3, hvs3⟩ := hB3.bs.len
   have hls : lenS v3 = m.length + 1 := by rw [hvs3]; simp [lenS]
   exact ⟨⟨j + 1, by omega, by rw [HN.out]; exact hB3, (Below.allocS hb _).trans hb3⟩, by have := HLL.out; rw [hls]; simp [lenS]; omega⟩
  ·have hje : j = zer n := by omega
   subst hje
   have hrem : (((t ++ 128 :: List.replicate (zer n) (0 : UInt8)).length : Int) % 64 == 56) = true := by rw [hll]; simp; omega
   have hl2 : (t ++ 128 :: List.replicate (zer n) (0 : UInt8)).length ≤ 1000 := by omega
   have HM : Hid (t ++ 128 :: List.replicate (zer n) 0 ++ be8 (8 * n) = t ++ padEnd n) := Lib.hid (by simp [padEnd])
   clear hll hzd hlt
   generalize t ++ 128 :: List.replicate (zer n) (0 : UInt8) = m at *
   have hremN : ((m.length : Int) % 64 != 56) = false := by simp [bne, hrem]
   have P2 := P.keep hb
   obtain ⟨pc2, pf2, pl2⟩ := id P2
   clear pc pf
   go_wp2_with fail
   go_loopw [3, 29] (fun s3 s29 wr => ∃ i : Nat, i ≤ 8 ∧ s29 = .int .i64 i ∧ BRow wr w.heap.size s3 (m ++ (be8 (8 * n)).take i) ∧ Below w.heap.size w wr) (fun _ s29 _ => 8 - (intOf s29).toNat)
   case atStart => exact ⟨0, by omega, rfl, by simpa using hB, hb⟩
   case round =>
    clear hB hb P2 pc2 pf2 pl2
    obtain ⟨i, hi, rfl, hB, hb⟩ := hrel
    rename_i wq
    obtain ⟨a2, c2, hvs⟩ := hB.bs.len
    subst hvs
    have hll : (m ++ (be8 (8 * n)).take i).length ≤ 1008 := by simp [be8_len]; omega
    by_cases hlt : i < 8
    ·have hlt' : (i : Int) < 8 := by omega
     have hat : (be8 (8 * n)).take (i + 1) = (be8 (8 * n)).take i ++ [UInt8.ofNat (8 * n / 2 ^ (56 - 8 * i) % 256)] := by
      rw [List.take_succ_eq_append_getElem (by rw [be8_len]; exact hlt)]
      simp [be8]
     have HN : Hid (m ++ (be8 (8 * n)).take (i + 1) = (m ++ (be8 (8 * n)).take i) ++ [UInt8.ofNat (8 * n / 2 ^ (56 - 8 * i) % 256)]) := Lib.hid (by rw [hat, List.append_assoc])
     clear hat
     generalize m ++ (be8 (8 * n)).take i = mm at *
     have hsh : (56 - 8 * (i : Int)).toNat = 56 - 8 * i := by omega
     have q0 : (0 : Int) ≤ 56 - 8 * (i : Int) := by omega
     have hval := Lib.hid (be_val n (56 - 8 * i))
     go_wp2_with (refine wpList_appB rfl (.tmp 32) (.tmp 39) rfl w.heap.size _ mm rfl (hB.alloc _) _ 0 1 1 [UInt8.ofNat (8 * n / 2 ^ (56 - 8 * i) % 256)] rfl rfl (bsrc1 _ _ _ _ hval.out) (by omega) (by have := hb.size; simp; omega) ?_; rintro v3 w3 hB3 hb3)
     exact ⟨⟨i + 1, by omega, by go_num, by rw [HN.out]; exact hB3, (Below.allocS hb _).trans hb3⟩, by simp [intOf]; omega⟩
    ·have hie : i = 8 := by omega
     subst hie
     have HE : Hid (m ++ (be8 (8 * n)).take 8 = t ++ padEnd n) := Lib.hid (by rw [List.take_of_length_le (by rw [be8_len]; omega)]; exact HM.out)
     rw [HE.out] at hB hll ⊢
     have HF := Lib.hid (blkN_bd f (t ++ padEnd n) hf ((t ++ padEnd n).length / 64))
     have HBL := Lib.hid (fun v => blocks_lit f hf v (t ++ padEnd n) (by omega) _ _ rfl rfl)
     have P3 := P.keep hb
     have hk3 := hk.keep hb
     obtain ⟨pc3, pf3, pl3⟩ := id P3
     generalize t ++ padEnd n = m3 at *
     generalize blkN f m3 (m3.length / 64) = ff at *
     go_wp2_with fail
     refine (HBL.out _ _ hB.bs hk3).mono ?_
     rintro e w4 ⟨a4, c4, rfl, hB4, hb4⟩
     go_wp2_with fail
     rw [app8]
     refine (told_any ff HF.out _).mono ?_
     rintro e w5 ⟨rfl, hb5⟩
     go_wp2_with fail
     go_ret
     exact ⟨by rw [← HR.out]; rfl, ((Below.allocS (hb.trans (hb4.mono hb.size)) _).trans (hb5.mono (by have := hb.size; have := hb4.size; simp; omega)))⟩
theorem shasum_any (s : List UInt8) (hs : s.length ≤ 1099511627776) (w : World) (hk : KT w) :
  Calls Tryz.prog 77 #[.string ⟨List.toArray s⟩] w fun e w' => e = .returned (.string ⟨List.toArray (sumP s)⟩) ∧ Below w.heap.size w w' := by
 go_enter Tryz.func77, Tryz.ntmps77
 go_wp2_with fail
 refine (new_any _).mono ?_
 rintro e w1 ⟨p, hp, rfl, P, hb1⟩
 have hk1 := hk.keep hb1
 have hpk : p ≠ 0 := by have := hk.lt; omega
 go_wp2_with fail
 refine (write_any p s hs _ hk1 hpk P).mono ?_
 rintro e w2 ⟨v2, rfl, P2, hB2, m2⟩
 have hk2 : KT w2 := ⟨fun i hi => (World.cell?_of_block (w := w1) (m2.block _ hk1.lt (by simp; exact fun h => hpk h.symm))).trans (hk1.cell i hi), Nat.lt_of_lt_of_le hk1.lt m2.size⟩
 have hb2 : Below w.heap.size w w2 := Below.mod hb1 m2 hb1.size (by simp; exact hp)
 go_wp2_with fail
 have htl : (s.drop (64 * (s.length / 64))).length = s.length - 64 * (s.length / 64) := by simp
 refine (hsum_any p _ (blkN_bd firstW s firstW_bd _) v2 _ s.length hs (by omega) (by omega) _ hk2 P2 hB2.bs).mono ?_
 rw [← sum_two]
 rintro e w3 ⟨rfl, hb3⟩
 go_wp2_with fail
 go_ret
 exact ⟨rfl, hb2.trans (hb3.mono hb2.size)⟩
end Go.Proofs.YtjppbomngnomhaaGreatDoor
namespace Go.Proofs.YtjppbomngnomhaaGreatDoor
open Go.RowKit
def kArr : List Value := kList.map fun n => .int .u32 n
theorem kArr_len : kArr.length = 64 := by decide
theorem kArr_one : ∀ v ∈ kArr, v.oneCell' = true := by
 intro v hv
 simp only [kArr, List.mem_map] at hv
 obtain ⟨n, _, rfl⟩ := hv
 rfl
theorem kArr_at (i : Nat) (h : i < 64) : kArr.toArray[i]? = some (.int .u32 (kc i)) := by
 have hl : i < kList.length := h
 simp [kArr, kc, List.getD, hl]
theorem constant_any (k : Nat) (hk : k < 64) (w : World) :
  Calls Tryz.prog 94 #[.int .i64 k] w fun e w' => e = .returned (.int .u32 (kc k)) ∧ Below w.heap.size w w' := by
 have hk' : (k : Int) < 64 := by omega
 have hc := kArr_at k hk
 go_enter Tryz.func94, Tryz.ntmps94
 go_wp2_with (refine wpList_rowStore row64w rfl rfl (.tmp 3) (.tmp 4) rfl rfl (vs := kArr) rfl kArr_len kArr_one (us := (arr 64 fun _ => 0)) (arr_len 64 _) (by rw [zero64w]; exact Blk.new' (by simp)) ?_; intro w2 S2 m2; have s2 := S2.cell k; rw [hc] at s2)
 go_ret
 exact ⟨rfl, Below.mod (Below.allocS (Below.refl _ _) _) m2 (by simp) (by simp)⟩
end Go.Proofs.YtjppbomngnomhaaGreatDoor
namespace Go.Proofs.YtjppbomngnomhaaGreatDoor
open Go.RowKit
def part4 (b : Nat → Int) (j : Nat) : Nat → Int
 | 0 => 0
 | 1 => b (4 * j)
 | 2 => b (4 * j) * 256 + b (4 * j + 1)
 | 3 => (b (4 * j) * 256 + b (4 * j + 1)) * 256 + b (4 * j + 2)
 | _ => ((b (4 * j) * 256 + b (4 * j + 1)) * 256 + b (4 * j + 2)) * 256 + b (4 * j + 3)
def pwTo (b : Nat → Int) (i : Nat) : Nat → Int := fun j => part4 b j (min 4 (i - 4 * j))
theorem pwTo_succ (b : Nat → Int) (i : Nat) : updI (pwTo b i) (i / 4) (pwTo b i (i / 4) * 256 + b i) = pwTo b (i + 1) := by
 funext j
 unfold updI pwTo
 by_cases h : j = i / 4
 ·rw [if_pos h]
  subst h
  have hr : i = 4 * (i / 4) + i % 4 := by omega
  have hc : i % 4 = 0 ∨ i % 4 = 1 ∨ i % 4 = 2 ∨ i % 4 = 3 := by omega
  rcases hc with h0 | h0 | h0 | h0
  ·rw [show min 4 (i - 4 * (i / 4)) = 0 from by omega, show min 4 (i + 1 - 4 * (i / 4)) = 1 from by omega]
   simp only [part4]
   rw [show 4 * (i / 4) = i from by omega]; omega
  ·rw [show min 4 (i - 4 * (i / 4)) = 1 from by omega, show min 4 (i + 1 - 4 * (i / 4)) = 2 from by omega]
   simp only [part4]
   rw [show 4 * (i / 4) + 1 = i from by omega]
  ·rw [show min 4 (i - 4 * (i / 4)) = 2 from by omega, show min 4 (i + 1 - 4 * (i / 4)) = 3 from by omega]
   simp only [part4]
   rw [show 4 * (i / 4) + 2 = i from by omega]
  ·rw [show min 4 (i - 4 * (i / 4)) = 3 from by omega, show min 4 (i + 1 - 4 * (i / 4)) = 4 from by omega]
   simp only [part4]
   rw [show 4 * (i / 4) + 3 = i from by omega]
 ·rw [if_neg h]
  rw [show min 4 (i - 4 * j) = min 4 (i + 1 - 4 * j) from by omega]
theorem pwTo_end (b : Nat → Int) (j : Nat) (h : j < 16) : pwTo b 64 j = sch b j := by
 rw [sch, dif_pos h]
 unfold pwTo word4
 rw [show min 4 (64 - 4 * j) = 4 from by omega]
 simp only [part4]
 omega
theorem pwTo_bd (b : Nat → Int) (hb : ∀ i, i < 64 → 0 ≤ b i ∧ b i < 256) (i : Nat) (hi : i < 64) : 0 ≤ pwTo b i (i / 4) ∧ pwTo b i (i / 4) < 16777216 := by
 have h0 := hb (4 * (i / 4)) (by omega)
 have h1 := hb (4 * (i / 4) + 1) (by omega)
 have h2 := hb (4 * (i / 4) + 2) (by omega)
 unfold pwTo
 have hc : i % 4 = 0 ∨ i % 4 = 1 ∨ i % 4 = 2 ∨ i % 4 = 3 := by omega
 rcases hc with h0 | h0 | h0 | h0
 ·rw [show min 4 (i - 4 * (i / 4)) = 0 from by omega]; simp only [part4]; omega
 ·rw [show min 4 (i - 4 * (i / 4)) = 1 from by omega]; simp only [part4]; omega
 ·rw [show min 4 (i - 4 * (i / 4)) = 2 from by omega]; simp only [part4]; omega
 ·rw [show min 4 (i - 4 * (i / 4)) = 3 from by omega]; simp only [part4]; omega
theorem zero16w : (arr 16 fun _ => 0).toArray = #[Value.int .u32 0, Value.int .u32 0, Value.int .u32 0, Value.int .u32 0, Value.int .u32 0, Value.int .u32 0, Value.int .u32 0, Value.int .u32 0, Value.int .u32 0, Value.int .u32 0, Value.int .u32 0, Value.int .u32 0, Value.int .u32 0, Value.int .u32 0, Value.int .u32 0, Value.int .u32 0] := rfl
theorem rblock_any (g b : Nat → Int) (hh : ∀ i, W32 (g i)) (hb : ∀ i, i < 64 → 0 ≤ b i ∧ b i < 256) (w : World) :
  Calls Tryz.prog 72 #[.agg (arr 8 g).toArray, .agg (arb 64 b).toArray] w fun e w' => e = .returned (.agg (arr 8 (blk g b)).toArray) ∧ Below w.heap.size w w' := by
 have HB := Lib.hid hb
 have HH := Lib.hid hh
 clear hb hh
 have HW := Lib.hid (sch_bd b HB.out)
 go_enter Tryz.func72, Tryz.ntmps72
 go_wp2_with fail
 go_loopw [6] (fun s6 wr => ∃ k : Nat, k ≤ 64 ∧ s6 = .int .i64 k ∧ Blk wr w.heap.size (arr 8 g).toArray ∧ Blk wr (w.heap.size + 1) (arb 64 b).toArray ∧ Blk wr (w.heap.size + 1 + 1) (arr 8 fun _ => 0).toArray ∧ Blk wr (w.heap.size + 1 + 1 + 1) (arr 16 (pwTo b k)).toArray ∧ Below w.heap.size w wr) (fun s6 _ => 64 - (intOf s6).toNat)
 case atStart =>
  rw [zero8w]
  exact ⟨0, by omega, rfl, (((Blk.new w _ _).alloc _).alloc _).alloc _, ((Blk.new' (by simp)).alloc _).alloc _, (Blk.new' (by simp)).alloc _, by rw [show arr 16 (pwTo b 0) = arr 16 (fun _ => 0) from arr_ext (fun i _ => by simp [pwTo, part4]), zero16w]; exact Blk.new' (by simp), by (repeat (first | exact Below.refl _ _ | assumption | apply Below.drew | apply below_drewN | apply Below.allocS | (refine Below.setCell ?_ (by simp <;> omega) _) | (refine Below.alloc ?_ (by simp <;> omega) _) | (refine Below.trans ?_ (Below.mono (by assumption) (by simp <;> omega)))))⟩
 case round =>
  obtain ⟨k, hk, rfl, G, B, Z, W, hb⟩ := hrel
  rename_i wr
  by_cases hlt : k < 64
  ·have hlt' : (k : Int) < 64 := by omega
   have b0 := HB.out k hlt
   have p0 := pwTo_bd b HB.out k hlt
   have c0 := B.cell k
   rw [arb_at 64 b _ hlt] at c0
   have d0 := W.cell (k / 4)
   rw [arr_at 16 _ _ (by omega)] at d0
   have d1 := W.froz
   have W1 := (W.set (k / 4) (.int .u32 (pwTo b k (k / 4) * 256 + b k)))
   rw [arr_set, pwTo_succ] at W1
   have HV := Lib.hid W1
   clear W1
   have hj : k / 4 < 16 := by omega
   have e1 : (k : Int) / 4 = ((k / 4 : Nat) : Int) := by omega
   have e2 : (k : Int).tdiv 4 = ((k / 4 : Nat) : Int) := by rw [Int.tdiv_eq_ediv_of_nonneg (by omega)]; omega
   generalize pwTo b k (k / 4) = x at *
   generalize b k = y at *
   generalize k / 4 = j at *
   have hj' : (j : Int) < 16 := by omega
   have i1 : IntKind.i64.wrap (j : Int) = (j : Int) := by rw [IntKind.wrap_i64]; omega
   go_wp2_with fail
   go_region
   all_goals go_wp2_with fail
   all_goals exact ⟨⟨k + 1, by omega, by go_num, (G.other (by simp <;> omega) _).drew, (B.other (by simp <;> omega) _).drew, (Z.other (by simp <;> omega) _).drew, HV.out.drew, (hb.setCell (by simp <;> omega) _).drew⟩, by simp [intOf]; omega⟩
  ·have hke : k = 64 := by omega
   subst hke
   rw [show ((64 : Nat) : Int) = 64 from rfl]
   have g0 := G.cell 0
   have g1 := G.cell 1
   have g2 := G.cell 2
   have g3 := G.cell 3
   have g4 := G.cell 4
   have g5 := G.cell 5
   have g6 := G.cell 6
   have g7 := G.cell 7
   rw [arr_at 8 _ _ (by omega)] at g0 g1 g2 g3 g4 g5 g6 g7
   go_wp2_with fail
   go_quiet (fail)
   go_wp2_with fail
   go_quiet (fail)
   go_wp2_with fail
   go_loopw [7, 8, 9, 10, 11, 12, 13, 14, 15] (fun s7 s8 s9 s10 s11 s12 s13 s14 s15 wr => ∃ (k : Nat) (f : Nat → Int), k ≤ 64 ∧ s15 = .int .i64 k ∧ s7 = .int .u32 (rds g b k 0) ∧ s8 = .int .u32 (rds g b k 1) ∧ s9 = .int .u32 (rds g b k 2) ∧ s10 = .int .u32 (rds g b k 3) ∧ s11 = .int .u32 (rds g b k 4) ∧ s12 = .int .u32 (rds g b k 5) ∧ s13 = .int .u32 (rds g b k 6) ∧ s14 = .int .u32 (rds g b k 7) ∧
    Hid (∀ t, t < max k 16 → k ≤ t + 16 → f (t % 16) = sch b t) ∧ Blk wr w.heap.size (arr 8 g).toArray ∧ Blk wr (w.heap.size + 1 + 1) (arr 8 fun _ => 0).toArray ∧ Blk wr (w.heap.size + 1 + 1 + 1) (arr 16 f).toArray ∧ Below w.heap.size w wr) (fun _ _ _ _ _ _ _ _ s15 _ => 64 - (intOf s15).toNat)
   case atStart => exact ⟨0, pwTo b 64, by omega, rfl, rfl, rfl, rfl, rfl, rfl, rfl, rfl, rfl, Lib.hid (fun t h1 _ => by rw [Nat.mod_eq_of_lt (by omega)]; exact pwTo_end b t (by omega)), (G.drewN _).drewN _, (Z.drewN _).drewN _, (W.drewN _).drewN _, below_drewN (below_drewN hb _) _⟩
   case round =>
    clear g0 g1 g2 g3 g4 g5 g6 g7 G B Z W hb
    obtain ⟨k, f, hk, rfl, rfl, rfl, rfl, rfl, rfl, rfl, rfl, rfl, HF, G, Z, W, hb⟩ := hrel
    rename_i wr
    by_cases hlt : k < 64
    ·have hlt' : (k : Int) < 64 := by omega
     by_cases h16 : k < 16
     ·have h16' : decide ((16 : Int) ≤ (k : Int)) = false := by simp; omega
      have cj := W.cell (k % 16)
      rw [arr_at 16 _ _ (by omega), HF.out k (by omega) (by omega)] at cj
      have HF2 : Hid (∀ t, t < max (k + 1) 16 → k + 1 ≤ t + 16 → f (t % 16) = sch b t) := Lib.hid (fun t h1 h2 => HF.out t (by omega) (by omega))
      have e0 : (k : Int) % 16 = ((k % 16 : Nat) : Int) := by omega
      have e2 : (k : Int).tmod 16 = ((k % 16 : Nat) : Int) := by rw [Int.tmod_eq_emod_of_nonneg (by omega)]; omega
      have hj : k % 16 < 16 := by omega
      have x0 := rds_bd g b HH.out k 0
      have x1 := rds_bd g b HH.out k 1
      have x2 := rds_bd g b HH.out k 2
      have x3 := rds_bd g b HH.out k 3
      have x4 := rds_bd g b HH.out k 4
      have x5 := rds_bd g b HH.out k 5
      have x6 := rds_bd g b HH.out k 6
      have x7 := rds_bd g b HH.out k 7
      obtain ⟨y0, y0'⟩ := HW.out k
      obtain ⟨z0, z0'⟩ := kc_bd k
      obtain ⟨x0, x0'⟩ := x0
      obtain ⟨x1, x1'⟩ := x1
      obtain ⟨x2, x2'⟩ := x2
      obtain ⟨x3, x3'⟩ := x3
      obtain ⟨x4, x4'⟩ := x4
      obtain ⟨x5, x5'⟩ := x5
      obtain ⟨x6, x6'⟩ := x6
      obtain ⟨x7, x7'⟩ := x7
      have R0 : Hid (rds g b (k + 1) 0 = (rds g b k 7 + bS1 (rds g b k 4) + chI (rds g b k 4) (rds g b k 5) (rds g b k 6) + kc k + sch b k + (bS0 (rds g b k 0) + majI (rds g b k 0) (rds g b k 1) (rds g b k 2))) % 4294967296) := Lib.hid rfl
      have R4 : Hid (rds g b (k + 1) 4 = (rds g b k 3 + (rds g b k 7 + bS1 (rds g b k 4) + chI (rds g b k 4) (rds g b k 5) (rds g b k 6) + kc k + sch b k)) % 4294967296) := Lib.hid rfl
      have R1 : Hid (rds g b (k + 1) 1 = rds g b k 0) := Lib.hid rfl
      have R2 : Hid (rds g b (k + 1) 2 = rds g b k 1) := Lib.hid rfl
      have R3 : Hid (rds g b (k + 1) 3 = rds g b k 2) := Lib.hid rfl
      have R5 : Hid (rds g b (k + 1) 5 = rds g b k 4) := Lib.hid rfl
      have R6 : Hid (rds g b (k + 1) 6 = rds g b k 5) := Lib.hid rfl
      have R7 : Hid (rds g b (k + 1) 7 = rds g b k 6) := Lib.hid rfl
      have HC := Lib.hid (constant_any k hlt)
      generalize kc k = kk at *
      generalize rds g b k 0 = a0 at *
      generalize rds g b k 1 = a1 at *
      generalize rds g b k 2 = a2 at *
      generalize rds g b k 3 = a3 at *
      generalize rds g b k 4 = a4 at *
      generalize rds g b k 5 = a5 at *
      generalize rds g b k 6 = a6 at *
      generalize rds g b k 7 = a7 at *
      generalize sch b k = wc at *
      generalize k % 16 = j at *
      have hj' : (j : Int) < 16 := by omega
      go_wp2_with fail
      go_region_held3 (fun w' => w'.cell? ⟨w.heap.size + 1 + 1 + 1, j, none⟩ = some (.int .u32 wc) ∧ Below wr.heap.size wr w')
       (first
        | exact ‹World.cell? _ _ = _ ∧ Below _ _ _›
        | (obtain ⟨s0, sb⟩ := ‹World.cell? _ _ = _ ∧ Below _ _ _›; exact ⟨keepC hbx s0, sb.trans (Below.mono hbx sb.size)⟩)
        | exact ⟨cj, (Below.refl _ _).drew⟩)
       (first
        | (go_at_call 93; refine (turned_any _ _ (by omega) (by omega) (by omega) (by omega) _).mono ?_; rintro e w' ⟨rfl, rfl⟩)
        | (go_at_call 94; refine (HC.out _).mono ?_; rintro e w' ⟨rfl, hbx⟩))
      all_goals
       obtain ⟨s0, sb⟩ := ‹World.cell? _ _ = _ ∧ Below _ _ _›
       rename_i wz
       have G2 := G.keep sb
       have Z2 := Z.keep sb
       have W2 := W.keep sb
       have hb2 := hb.trans (sb.mono hb.size)
       have hu : IntKind.u32.wrap (IntKind.u32.wrap (IntKind.u32.wrap (IntKind.u32.wrap (a7 + bits .xor .u32 (bits .xor .u32 (rotI a4 6) (rotI a4 11)) (rotI a4 25)) + bits .xor .u32 (bits .and .u32 a4 a5) (bits .and .u32 (bits .xor .u32 IntKind.u32.max a4) a6)) + kk) + wc) = (a7 + bS1 a4 + chI a4 a5 a6 + kk + wc) % 4294967296 := by
        show IntKind.u32.wrap (IntKind.u32.wrap (IntKind.u32.wrap (IntKind.u32.wrap (a7 + bS1 a4) + chI a4 a5 a6) + kk) + wc) = _
        simp only [IntKind.wrap_u32']
        omega
       rw [hu]
       have hub := mod_bd (a7 + bS1 a4 + chI a4 a5 a6 + kk + wc)
       generalize hU : (a7 + bS1 a4 + chI a4 a5 a6 + kk + wc) % 4294967296 = u at *
       have HU := Lib.hid hU
       obtain ⟨u0, u0'⟩ := hub
       clear hu hU sb s0
       go_wp2_with fail
       refine (turned_any _ _ (by omega) (by omega) (by omega) (by omega) _).mono ?_
       rintro e w4 ⟨rfl, rfl⟩
       go_wp2_with fail
       refine (turned_any _ _ (by omega) (by omega) (by omega) (by omega) _).mono ?_
       rintro e w4 ⟨rfl, rfl⟩
       go_wp2_with fail
       refine (turned_any _ _ (by omega) (by omega) (by omega) (by omega) _).mono ?_
       rintro e w4 ⟨rfl, rfl⟩
       go_wp2_with fail
       have q0 : (u + (bits .xor .u32 (bits .xor .u32 (rotI a0 2) (rotI a0 13)) (rotI a0 22) + bits .xor .u32 (bits .xor .u32 (bits .and .u32 a0 a1) (bits .and .u32 a0 a2)) (bits .and .u32 a1 a2)) % 4294967296) % 4294967296 = rds g b (k + 1) 0 := by
        rw [R0.out, ← HU.out]
        show (((a7 + bS1 a4 + chI a4 a5 a6 + kk + wc) % 4294967296) + (bS0 a0 + majI a0 a1 a2) % 4294967296) % 4294967296 = _
        omega
       have q4 : (a3 + u) % 4294967296 = rds g b (k + 1) 4 := by
        rw [R4.out, ← HU.out]
        omega
       rw [q0, q4]
       exact ⟨⟨k + 1, f, by omega, by go_num, rfl, by rw [R1.out], by rw [R2.out], by rw [R3.out], rfl, by rw [R5.out], by rw [R6.out], by rw [R7.out], HF2, G2, Z2, W2, hb2⟩, by simp [intOf]; omega⟩
     ·have h16' : decide ((16 : Int) ≤ (k : Int)) = true := by simp; omega
      have c1 := W.cell ((k + 1) % 16)
      rw [arr_at 16 _ _ (by omega), show (k + 1) % 16 = (k - 15) % 16 from by omega, HF.out (k - 15) (by omega) (by omega)] at c1
      have c2 := W.cell ((k + 14) % 16)
      rw [arr_at 16 _ _ (by omega), show (k + 14) % 16 = (k - 2) % 16 from by omega, HF.out (k - 2) (by omega) (by omega)] at c2
      have c3 := W.cell ((k + 9) % 16)
      rw [arr_at 16 _ _ (by omega), show (k + 9) % 16 = (k - 7) % 16 from by omega, HF.out (k - 7) (by omega) (by omega)] at c3
      have c0 := W.cell (k % 16)
      rw [arr_at 16 _ _ (by omega), show k % 16 = (k - 16) % 16 from by omega, HF.out (k - 16) (by omega) (by omega)] at c0
      have E0 : k % 16 = (k - 16) % 16 := by omega
      have d1 := W.froz
      have e0 : (k : Int) % 16 = (((k - 16) % 16 : Nat) : Int) := by omega
      have e0t : (k : Int).tmod 16 = (((k - 16) % 16 : Nat) : Int) := by rw [Int.tmod_eq_emod_of_nonneg (by omega)]; omega
      have e1 : ((k : Int) + 1) % 16 = (((k - 15) % 16 : Nat) : Int) := by omega
      have e2 : ((k : Int) + 14) % 16 = (((k - 2) % 16 : Nat) : Int) := by omega
      have e3 : ((k : Int) + 9) % 16 = (((k - 7) % 16 : Nat) : Int) := by omega
      have e3t : ((k : Int) + 9).tmod 16 = (((k - 7) % 16 : Nat) : Int) := by rw [Int.tmod_eq_emod_of_nonneg (by omega)]; omega
      have i9 : IntKind.i64.wrap ((k : Int) + 9) = (k : Int) + 9 := by rw [IntKind.wrap_i64]; omega
      have HF2 : Hid (∀ t, t < max (k + 1) 16 → k + 1 ≤ t + 16 → updI f ((k - 16) % 16) (sch b k) (t % 16) = sch b t) := Lib.hid (fun t h1 h2 => by
       unfold updI
       by_cases h : t % 16 = (k - 16) % 16
       ·rw [if_pos h, show t = k from by omega]
       ·rw [if_neg h]; exact HF.out t (by omega) (by omega))
      have W1 := W.set ((k - 16) % 16) (.int .u32 (sch b k))
      rw [arr_set] at W1
      have cj := W1.cell ((k - 16) % 16)
      rw [arr_at 16 _ _ (by omega), show updI f ((k - 16) % 16) (sch b k) ((k - 16) % 16) = sch b k from if_pos rfl] at cj
      have HCJ := Lib.hid cj
      have HW1 := Lib.hid W1
      clear cj W1
      have HS : Hid (sch b k = (sch b (k - 16) + sg0 (sch b (k - 15)) + sch b (k - 7) + sg1 (sch b (k - 2))) % 4294967296) := Lib.hid (by rw [sch, dif_neg (by omega)])
      obtain ⟨p0, p0'⟩ := HW.out (k - 16)
      obtain ⟨p1, p1'⟩ := HW.out (k - 15)
      obtain ⟨p2, p2'⟩ := HW.out (k - 7)
      obtain ⟨p3, p3'⟩ := HW.out (k - 2)
      have hj : (k - 16) % 16 < 16 := by omega
      have hj1 : (k - 15) % 16 < 16 := by omega
      have hj2 : (k - 2) % 16 < 16 := by omega
      have hj3 : (k - 7) % 16 < 16 := by omega
      have x0 := rds_bd g b HH.out k 0
      have x1 := rds_bd g b HH.out k 1
      have x2 := rds_bd g b HH.out k 2
      have x3 := rds_bd g b HH.out k 3
      have x4 := rds_bd g b HH.out k 4
      have x5 := rds_bd g b HH.out k 5
      have x6 := rds_bd g b HH.out k 6
      have x7 := rds_bd g b HH.out k 7
      obtain ⟨y0, y0'⟩ := HW.out k
      obtain ⟨z0, z0'⟩ := kc_bd k
      obtain ⟨x0, x0'⟩ := x0
      obtain ⟨x1, x1'⟩ := x1
      obtain ⟨x2, x2'⟩ := x2
      obtain ⟨x3, x3'⟩ := x3
      obtain ⟨x4, x4'⟩ := x4
      obtain ⟨x5, x5'⟩ := x5
      obtain ⟨x6, x6'⟩ := x6
      obtain ⟨x7, x7'⟩ := x7
      have R0 : Hid (rds g b (k + 1) 0 = (rds g b k 7 + bS1 (rds g b k 4) + chI (rds g b k 4) (rds g b k 5) (rds g b k 6) + kc k + sch b k + (bS0 (rds g b k 0) + majI (rds g b k 0) (rds g b k 1) (rds g b k 2))) % 4294967296) := Lib.hid rfl
      have R4 : Hid (rds g b (k + 1) 4 = (rds g b k 3 + (rds g b k 7 + bS1 (rds g b k 4) + chI (rds g b k 4) (rds g b k 5) (rds g b k 6) + kc k + sch b k)) % 4294967296) := Lib.hid rfl
      have R1 : Hid (rds g b (k + 1) 1 = rds g b k 0) := Lib.hid rfl
      have R2 : Hid (rds g b (k + 1) 2 = rds g b k 1) := Lib.hid rfl
      have R3 : Hid (rds g b (k + 1) 3 = rds g b k 2) := Lib.hid rfl
      have R5 : Hid (rds g b (k + 1) 5 = rds g b k 4) := Lib.hid rfl
      have R6 : Hid (rds g b (k + 1) 6 = rds g b k 5) := Lib.hid rfl
      have R7 : Hid (rds g b (k + 1) 7 = rds g b k 6) := Lib.hid rfl
      have HC := Lib.hid (constant_any k hlt)
      generalize kc k = kk at *
      generalize rds g b k 0 = a0 at *
      generalize rds g b k 1 = a1 at *
      generalize rds g b k 2 = a2 at *
      generalize rds g b k 3 = a3 at *
      generalize rds g b k 4 = a4 at *
      generalize rds g b k 5 = a5 at *
      generalize rds g b k 6 = a6 at *
      generalize rds g b k 7 = a7 at *
      generalize sch b k = wc at *
      generalize sch b (k - 16) = z0 at *
      generalize sch b (k - 15) = z1 at *
      generalize sch b (k - 7) = z2 at *
      generalize sch b (k - 2) = z3 at *
      generalize (k - 16) % 16 = j at *
      generalize (k - 15) % 16 = j1 at *
      generalize (k - 2) % 16 = j2 at *
      generalize (k - 7) % 16 = j3 at *
      have hj' : (j : Int) < 16 := by omega
      have hj1' : (j1 : Int) < 16 := by omega
      have hj2' : (j2 : Int) < 16 := by omega
      have hj3' : (j3 : Int) < 16 := by omega
      have i0 : IntKind.i64.wrap (j : Int) = (j : Int) := by rw [IntKind.wrap_i64]; omega
      have i3 : IntKind.i64.wrap (j3 : Int) = (j3 : Int) := by rw [IntKind.wrap_i64]; omega
      go_wp2_with fail
      refine (turned_any _ _ (by omega) (by omega) (by omega) (by omega) _).mono ?_
      rintro e w4 ⟨rfl, rfl⟩
      go_wp2_with fail
      refine (turned_any _ _ (by omega) (by omega) (by omega) (by omega) _).mono ?_
      rintro e w4 ⟨rfl, rfl⟩
      go_wp2_with fail
      refine (turned_any _ _ (by omega) (by omega) (by omega) (by omega) _).mono ?_
      rintro e w4 ⟨rfl, rfl⟩
      go_wp2_with fail
      refine (turned_any _ _ (by omega) (by omega) (by omega) (by omega) _).mono ?_
      rintro e w4 ⟨rfl, rfl⟩
      go_wp2_with fail
      go_region
      have hwc : (z0 + bits .xor .u32 (bits .xor .u32 (rotI z1 7) (rotI z1 18)) (z1 / 8) + z2 + bits .xor .u32 (bits .xor .u32 (rotI z3 17) (rotI z3 19)) (z3 / 1024)) % 4294967296 = wc := HS.out.symm
      rw [hwc]
      have G1 := (G.other (a := ⟨w.heap.size + 1 + 1 + 1, j, none⟩) (by simp <;> omega) (.int .u32 wc)).drew
      have Z1 := (Z.other (a := ⟨w.heap.size + 1 + 1 + 1, j, none⟩) (by simp <;> omega) (.int .u32 wc)).drew
      have hb1 : Below w.heap.size w (wr.setCell ⟨w.heap.size + 1 + 1 + 1, j, none⟩ (.int .u32 wc)).drew := (hb.setCell (by simp <;> omega) _).drew
      have W1 := HW1.out.drew
      have cj : (wr.setCell ⟨w.heap.size + 1 + 1 + 1, j, none⟩ (.int .u32 wc)).drew.cell? ⟨w.heap.size + 1 + 1 + 1, j, none⟩ = some (.int .u32 wc) := HCJ.out
      clear G Z W hb c0 c1 c2 c3 d1 hwc HW1 HCJ
      generalize (wr.setCell ⟨w.heap.size + 1 + 1 + 1, j, none⟩ (.int .u32 wc)).drew = wy at *
      generalize updI f j wc = f2 at *
      have G := G1
      have Z := Z1
      have W := W1
      have hb := hb1
      clear G1 Z1 W1 hb1
      go_wp2_with fail
      go_region_held3 (fun w' => w'.cell? ⟨w.heap.size + 1 + 1 + 1, j, none⟩ = some (.int .u32 wc) ∧ Below wy.heap.size wy w')
       (first
        | exact ‹World.cell? _ _ = _ ∧ Below _ _ _›
        | (obtain ⟨s0, sb⟩ := ‹World.cell? _ _ = _ ∧ Below _ _ _›; exact ⟨keepC hbx s0, sb.trans (Below.mono hbx sb.size)⟩)
        | exact ⟨cj, (Below.refl _ _).drew⟩)
       (first
        | (go_at_call 93; refine (turned_any _ _ (by omega) (by omega) (by omega) (by omega) _).mono ?_; rintro e w' ⟨rfl, rfl⟩)
        | (go_at_call 94; refine (HC.out _).mono ?_; rintro e w' ⟨rfl, hbx⟩))
      all_goals
       obtain ⟨s0, sb⟩ := ‹World.cell? _ _ = _ ∧ Below _ _ _›
       rename_i wz
       have G2 := G.keep sb
       have Z2 := Z.keep sb
       have W2 := W.keep sb
       have hb2 := hb.trans (sb.mono hb.size)
       have hu : IntKind.u32.wrap (IntKind.u32.wrap (IntKind.u32.wrap (IntKind.u32.wrap (a7 + bits .xor .u32 (bits .xor .u32 (rotI a4 6) (rotI a4 11)) (rotI a4 25)) + bits .xor .u32 (bits .and .u32 a4 a5) (bits .and .u32 (bits .xor .u32 IntKind.u32.max a4) a6)) + kk) + wc) = (a7 + bS1 a4 + chI a4 a5 a6 + kk + wc) % 4294967296 := by
        show IntKind.u32.wrap (IntKind.u32.wrap (IntKind.u32.wrap (IntKind.u32.wrap (a7 + bS1 a4) + chI a4 a5 a6) + kk) + wc) = _
        simp only [IntKind.wrap_u32']
        omega
       rw [hu]
       have hub := mod_bd (a7 + bS1 a4 + chI a4 a5 a6 + kk + wc)
       generalize hU : (a7 + bS1 a4 + chI a4 a5 a6 + kk + wc) % 4294967296 = u at *
       have HU := Lib.hid hU
       obtain ⟨u0, u0'⟩ := hub
       clear hu hU sb s0
       go_wp2_with fail
       refine (turned_any _ _ (by omega) (by omega) (by omega) (by omega) _).mono ?_
       rintro e w4 ⟨rfl, rfl⟩
       go_wp2_with fail
       refine (turned_any _ _ (by omega) (by omega) (by omega) (by omega) _).mono ?_
       rintro e w4 ⟨rfl, rfl⟩
       go_wp2_with fail
       refine (turned_any _ _ (by omega) (by omega) (by omega) (by omega) _).mono ?_
       rintro e w4 ⟨rfl, rfl⟩
       go_wp2_with fail
       have q0 : (u + (bits .xor .u32 (bits .xor .u32 (rotI a0 2) (rotI a0 13)) (rotI a0 22) + bits .xor .u32 (bits .xor .u32 (bits .and .u32 a0 a1) (bits .and .u32 a0 a2)) (bits .and .u32 a1 a2)) % 4294967296) % 4294967296 = rds g b (k + 1) 0 := by
        rw [R0.out, ← HU.out]
        show (((a7 + bS1 a4 + chI a4 a5 a6 + kk + wc) % 4294967296) + (bS0 a0 + majI a0 a1 a2) % 4294967296) % 4294967296 = _
        omega
       have q4 : (a3 + u) % 4294967296 = rds g b (k + 1) 4 := by
        rw [R4.out, ← HU.out]
        omega
       rw [q0, q4]
       exact ⟨⟨k + 1, f2, by omega, by go_num, rfl, by rw [R1.out], by rw [R2.out], by rw [R3.out], rfl, by rw [R5.out], by rw [R6.out], by rw [R7.out], HF2, G2, Z2, W2, hb2⟩, by simp [intOf]; omega⟩
    ·have hke : k = 64 := by omega
     subst hke
     rw [show ((64 : Nat) : Int) = 64 from rfl]
     have g0 := G.cell 0
     have g1 := G.cell 1
     have g2 := G.cell 2
     have g3 := G.cell 3
     have g4 := G.cell 4
     have g5 := G.cell 5
     have g6 := G.cell 6
     have g7 := G.cell 7
     rw [arr_at 8 _ _ (by omega)] at g0 g1 g2 g3 g4 g5 g6 g7
     obtain ⟨y0, y0'⟩ := HH.out 0
     obtain ⟨y1, y1'⟩ := HH.out 1
     obtain ⟨y2, y2'⟩ := HH.out 2
     obtain ⟨y3, y3'⟩ := HH.out 3
     obtain ⟨y4, y4'⟩ := HH.out 4
     obtain ⟨y5, y5'⟩ := HH.out 5
     obtain ⟨y6, y6'⟩ := HH.out 6
     obtain ⟨y7, y7'⟩ := HH.out 7
     obtain ⟨x0, x0'⟩ := rds_bd g b HH.out 64 0
     obtain ⟨x1, x1'⟩ := rds_bd g b HH.out 64 1
     obtain ⟨x2, x2'⟩ := rds_bd g b HH.out 64 2
     obtain ⟨x3, x3'⟩ := rds_bd g b HH.out 64 3
     obtain ⟨x4, x4'⟩ := rds_bd g b HH.out 64 4
     obtain ⟨x5, x5'⟩ := rds_bd g b HH.out 64 5
     obtain ⟨x6, x6'⟩ := rds_bd g b HH.out 64 6
     obtain ⟨x7, x7'⟩ := rds_bd g b HH.out 64 7
     have H8 : Hid ((arr 8 (blk g b)).toArray = #[.int .u32 ((g 0 + rds g b 64 0) % 4294967296), .int .u32 ((g 1 + rds g b 64 1) % 4294967296), .int .u32 ((g 2 + rds g b 64 2) % 4294967296), .int .u32 ((g 3 + rds g b 64 3) % 4294967296), .int .u32 ((g 4 + rds g b 64 4) % 4294967296), .int .u32 ((g 5 + rds g b 64 5) % 4294967296), .int .u32 ((g 6 + rds g b 64 6) % 4294967296), .int .u32 ((g 7 + rds g b 64 7) % 4294967296)]) := Lib.hid (by
      rw [show arr 8 (blk g b) = arr 8 (fun i => (g i + rds g b 64 i) % 4294967296) from arr_ext (fun i _ => by unfold blk; rw [Int.add_comm])]
      rfl)
     go_wp2_with (refine wpList_rowStore row8w rfl rfl (.tmp 4) (.tmp 195) rfl rfl rfl rfl (by simp [Value.oneCell']) (arr_len 8 _) Z ?_; intro w6 R6 m6)
     have R7 : Blk w6 (w.heap.size + 1 + 1) (arr 8 (blk g b)).toArray := by rw [H8.out]; exact R6
     refine bodyPost_ret (results_cell1 rfl _ _ _ _ rfl (row_loadVar row8w _ (arr_len 8 _) R7)) rfl ?_
     exact ⟨rfl, Below.mod hb m6 (by have := hb.size; omega) (by simp <;> omega)⟩
end Go.Proofs.YtjppbomngnomhaaGreatDoor
