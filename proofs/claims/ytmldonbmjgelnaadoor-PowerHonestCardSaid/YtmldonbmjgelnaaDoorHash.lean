/- Walks of layer 3: whole blocks of bytes. -/
import Derived.Test.YtmldonbmjgelnaaDoorTold
set_option linter.unusedSimpArgs false
set_option linter.unusedVariables false
namespace Go.Proofs.YtmldonbmjgelnaaDoor
open Go.RowKit

/-- The words behind the first n blocks. -/
def blkB (l : List UInt8) (n : Nat) : Nat → Int := fun i => (((l.drop (64 * n)).getD i 0).toNat : Int)
def blkN (g : Nat → Int) (l : List UInt8) : Nat → Nat → Int
  | 0 => g
  | n + 1 => blk (blkN g l n) (blkB l n)
theorem blkN_bd (g : Nat → Int) (l : List UInt8) (hg : ∀ i, W32 (g i)) (n : Nat) : ∀ i, W32 (blkN g l n i) := by
  cases n with
  | zero => exact hg
  | succ n => exact fun i => blk_bd _ _ i
theorem blkB_bd (l : List UInt8) (n i : Nat) : 0 ≤ blkB l n i ∧ blkB l n i < 256 := by
  unfold blkB
  have := ((l.drop (64 * n)).getD i 0).toNat_lt
  omega
theorem bytes_range {w : World} {p off : Nat} {m : List UInt8} (h : BSrc w p off m) (hm : 64 ≤ m.length) (f : Nat → Int) (hf : ∀ i, i < 64 → f i = ((m.getD i 0).toNat : Int)) : w.rangeAt p off (arb 64 f) := by
  intro j v hv
  have hj : j < 64 := by
    rcases Nat.lt_or_ge j 64 with hlt | hge
    · exact hlt
    · rw [List.getElem?_eq_none (by simp; omega)] at hv; cases hv
  have h2 := arb_at 64 f j hj
  rw [h j (by omega)]
  rw [List.getElem?_toArray] at h2
  rw [h2] at hv
  rw [← hf j hj]
  exact hv

theorem wpStill_rowLoadAt {P : Program} {T : TypeId} {n : Nat} {ops : Array Oper} {rest : List Oper} {op : Oper} {a : Act} {w : World} {Q : Act → Prop} (hT : RowT P T n) (hgd : op.guard = none) (x : Operand) (ho : op.op = .load T x) {b off : Nat}
    (hx : a.eval x = .pointer (some ⟨b, off, none⟩)) {vs : List Value} (hl : vs.length = n) (hr : w.rangeAt b off vs) (h : wpStill P ops w Q rest (a.put op.dst (.agg vs.toArray))) : wpStill P ops w Q (op :: rest) a := by
  obtain ⟨⟨d, h1, h2⟩, h3⟩ := hT
  unfold wpStill
  rw [if_pos (by simp [Region.wanted, hgd])]
  unfold Oper.still execOp
  simp only [ho, hx, Instr.loadAt, Instr.sureAddr, Sem.run_bind, Sem.run_pure, Result.andThen_ok, run_loadVar_mid w b off T vs d hr h1 h2 (by rw [hl]; exact h3)]
  exact ⟨rfl, h⟩

theorem wpStill_arrayAt {ops : Array Oper} {rest : List Oper} {op : Oper} {a : Act} {w : World} {Q : Act → Prop} (hgd : op.guard = none) (x : Operand) (ho : op.op = .sliceToArrayPointer 129 x) {ad : Option Addr} {n c : Nat}
    (hx : a.eval x = .slice ad n c) (hn : 64 ≤ n) (h : wpStill Tryd.prog ops w Q rest (a.put op.dst (.pointer ad))) : wpStill Tryd.prog ops w Q (op :: rest) a := by
  unfold wpStill
  rw [if_pos (by simp [Region.wanted, hgd])]
  unfold Oper.still execOp
  simp only [ho, hx, Instr.arrayAt, Sem.run_bind, Result.andThen_ok, run_underlying Tryd.underlying129]
  rw [if_neg (by omega)]
  simp only [Sem.run_pure, Result.andThen_ok]
  exact ⟨rfl, h⟩

/-- Likewise, in a block below B. -/
def BSo (B : Nat) (w : World) (v : Value) (l : List UInt8) : Prop :=
  (v = .slice none 0 0 ∧ l = []) ∨ ∃ g off cap, v = .slice (some ⟨g, off, none⟩) l.length cap ∧ l.length ≤ cap ∧ cap ≤ maxLen ∧ g < B ∧ BSrc w g off l
theorem BSo.bs {B : Nat} {w : World} {v : Value} {l : List UInt8} (h : BSo B w v l) (hB : B ≤ w.heap.size) : BS w v l :=
  h.imp id fun ⟨g, off, cap, h1, h2, h3, h4, h5⟩ => ⟨g, off, cap, h1, h2, h3, Nat.lt_of_lt_of_le h4 hB, h5⟩
theorem BSo.keep {B : Nat} {W w : World} {v : Value} {l : List UInt8} (h : BSo B W v l) (hb : Below B W w) : BSo B w v l :=
  h.imp id fun ⟨g, off, cap, h1, h2, h3, h4, h5⟩ => ⟨g, off, cap, h1, h2, h3, h4, fun i hi => (hb.cell (p := ⟨g, off + i, none⟩) h4).trans (h5 i hi)⟩

@[go_sem, simp] theorem arr_get (n : Nat) (f : Nat → Int) (i : Nat) (h : i < n) : (arr n f)[i]? = some (.int .u32 (f i)) := by
  have := arr_at n f i h
  rwa [List.getElem?_toArray] at this
@[go_sem, simp] theorem arr_getE (n : Nat) (f : Nat → Int) (i : Nat) (h : i < (arr n f).length) : (arr n f)[i]'h = .int .u32 (f i) := by simp [arr]
theorem arr8_filled (z f : Nat → Int) : arr 8 (updI (updI (updI (updI (updI (updI (updI (updI z 0 (f 0)) 1 (f 1)) 2 (f 2)) 3 (f 3)) 4 (f 4)) 5 (f 5)) 6 (f 6)) 7 (f 7)) = arr 8 f := by
  apply arr_ext
  intro i hi
  have hc : i = 0 ∨ i = 1 ∨ i = 2 ∨ i = 3 ∨ i = 4 ∨ i = 5 ∨ i = 6 ∨ i = 7 := by omega
  rcases hc with rfl | rfl | rfl | rfl | rfl | rfl | rfl | rfl <;> rfl
theorem results_cellT {P : Program} {fn : Func} {a b : Nat} {t : TypeId} (h : fn.results = #[.cell a t, .tmp b]) (tmps : Array Value) (w : World) (p : Addr) (v : Value) (hp : tmps.getD a undef = .pointer (some p)) (hl : (loadVar t p).run P w = .ok v w) :
    (results fn tmps).run P w = .ok (.tuple #[v, tmps.getD b undef]) w := by
  unfold results
  rw [h]
  rw [Array.getD_eq_getD_getElem?] at hp
  simp [hp, asAddr, hl, Sem.run_bind]

def lenS : Value → Nat
  | .slice _ n _ => n
  | _ => 0
def BlocksPost (W : World) (g : Nat → Int) (l : List UInt8) (e : Ending) (w' : World) : Prop :=
  ∃ v', e = .returned (.tuple #[.agg (arr 8 (blkN g l (l.length / 64))).toArray, v']) ∧ BRow w' W.heap.size v' (l.drop (64 * (l.length / 64))) ∧ Below W.heap.size W w'

set_option maxRecDepth 100000 in
set_option maxHeartbeats 1000000 in
theorem blocks_any (g : Nat → Int) (hg : ∀ i, W32 (g i)) (v : Value) (l : List UInt8) (hl : l.length ≤ 1099511627776) (w : World) (hv : BS w v l) (hk0 : KT w) :
    Calls Tryd.prog 121 #[.agg (arr 8 g).toArray, v] w (BlocksPost w g l) := by
  have HG := Lib.hid hg
  clear hg
  go_enter Tryd.func121, Tryd.ntmps121
  go_wp2_with fail
  go_loopw [1] (fun s1 wr => ∃ n : Nat, 64 * n ≤ l.length ∧ BSo w.heap.size wr s1 (l.drop (64 * n)) ∧ Blk wr w.heap.size (arr 8 (blkN g l n)).toArray ∧ Blk wr (w.heap.size + 1) (arr 8 fun _ => 0).toArray ∧ Below w.heap.size w wr) (fun s1 _ => lenS s1)
  case atStart =>
    rw [zero8w]
    exact ⟨0, by omega, (show BSo w.heap.size w v (l.drop 0) from hv).keep (Below.allocS (Below.allocS (Below.refl _ _) _) _), (Blk.new w _ _).alloc _, Blk.new' (by simp), by (repeat (first | exact Below.refl _ _ | assumption | apply Below.drew | apply below_drewN | apply Below.allocS | (refine Below.setCell ?_ (by simp <;> omega) _) | (refine Below.alloc ?_ (by simp <;> omega) _) | (refine Below.trans ?_ (Below.mono (by assumption) (by simp <;> omega)))))⟩
  case round =>
    obtain ⟨n, hn, S, B, Z, hb⟩ := hrel
    rename_i wr
    clear hv
    have hml : (l.drop (64 * n)).length = l.length - 64 * n := by simp
    rcases id S with ⟨rfl, hm⟩ | ⟨p, off, cap, rfl, h1, h2, h3, h4⟩
    · have hn2 : l.length / 64 = n := by
        have := congrArg List.length hm
        simp at this
        omega
      have HP : Hid (BlocksPost w g l = fun e w' => ∃ v', e = .returned (.tuple #[.agg (arr 8 (blkN g l n)).toArray, v']) ∧ BRow w' w.heap.size v' (l.drop (64 * n)) ∧ Below w.heap.size w w') := Lib.hid (by unfold BlocksPost; rw [hn2])
      have hm0 : (l.drop (64 * n)).length = 0 := by rw [hm]; rfl
      have hml2 : (l.drop (64 * n)).length ≤ 0 := by omega
      clear hn2 hml hm hm0
      obtain ⟨bc, bf, bl⟩ := id B
      obtain ⟨zc, zf, zl⟩ := id Z
      have HS := S.bs hb.size
      have HS2 := Lib.hid HS
      clear HS S
      generalize l.drop (64 * n) = m at *
      have hml' : m.length ≤ 64 := by omega
      go_wp2_with fail
      go_region_law (refine step_appBS rfl (.const (.slice none 0 0)) (.tmp 18) rfl wr.heap.size (.slice none 0 0) [] rfl (BRow.nil _ _) _ m rfl HS2.out (by simp; omega) (by simp) ?_; rintro v' w2 hB2 hg2; have hb2 := grown_nil hg2; have B2 := B.drew.keep hb2; have Z2 := Z.drew.keep hb2; obtain ⟨bc2, bf2, bl2⟩ := id B2; obtain ⟨zc2, zf2, zl2⟩ := id Z2)
      all_goals
        go_wp2_with fail
        have R := ((((((((Z2).set 0 (.int .u32 (blkN g l n 0))).set 1 (.int .u32 (blkN g l n 1))).set 2 (.int .u32 (blkN g l n 2))).set 3 (.int .u32 (blkN g l n 3))).set 4 (.int .u32 (blkN g l n 4))).set 5 (.int .u32 (blkN g l n 5))).set 6 (.int .u32 (blkN g l n 6))).set 7 (.int .u32 (blkN g l n 7))
        simp only [arr_set] at R
        rw [arr8_filled] at R
        refine bodyPost_ret (results_cellT rfl _ _ _ _ rfl (row_loadVar row8w _ (arr_len 8 _) R)) rfl ?_
        rw [HP.out]
        have hb3 : Below w.heap.size w w2 := hb.drew.trans (hb2.mono (by simp; exact hb.size))
        refine ⟨v', rfl, BRow.mono (hB2.kept (fun k hk => ?_)) (by omega), (((((((hb3.setCell (by simp) _).setCell (by simp) _).setCell (by simp) _).setCell (by simp) _).setCell (by simp) _).setCell (by simp) _).setCell (by simp) _).setCell (by simp) _⟩
        have hk2 := (ownBlock_lt hB2 k hk).1
        have hne : k ≠ w.heap.size + 1 := by omega
        have hne2 : w.heap.size + 1 ≠ k := by omega
        rw [Below.heap_setCell _ _ _ _ hne, Below.heap_setCell _ _ _ _ hne, Below.heap_setCell _ _ _ _ hne, Below.heap_setCell _ _ _ _ hne, Below.heap_setCell _ _ _ _ hne, Below.heap_setCell _ _ _ _ hne, Below.heap_setCell _ _ _ _ hne, Below.heap_setCell _ _ _ _ hne]
    · by_cases hge : 64 ≤ (l.drop (64 * n)).length
      · have hbd : ∀ i, i < 64 → blkB l n i = (((l.drop (64 * n)).getD i 0).toNat : Int) := fun i hi => rfl
        have HN : Hid (blkN g l (n + 1) = blk (blkN g l n) (blkB l n)) := Lib.hid rfl
        have HB := Lib.hid (blkN_bd g l HG.out n)
        have HBB := Lib.hid (blkB_bd l n)
        have HHB := Lib.hid hbd
        have HD : Hid (l.drop (64 * (n + 1)) = (l.drop (64 * n)).drop 64) := Lib.hid (by rw [List.drop_drop]; congr 1)
        clear hbd
        have H4 := Lib.hid h4
        clear h4
        have Hml := Lib.hid hml
        clear hml
        generalize l.drop (64 * n) = m at *
        generalize blkN g l n = f at *
        generalize blkB l n = bb at *
        have hge' : (64 : Int) ≤ (m.length : Int) := by omega
        have hcap : (64 : Int) ≤ (cap : Int) := by omega
        unfold maxLen at h2
        go_wp2_with fail
        refine wp_tail 5 (by kernel_rfl) (by kernel_rfl) ?_
        intro w2 hw2
        have B2 : Blk w2 w.heap.size (arr 8 f).toArray := by rw [hw2]; exact B.drew
        have Z2 : Blk w2 (w.heap.size + 1) (arr 8 fun _ => 0).toArray := by rw [hw2]; exact Z.drew
        have S2 : BSrc w2 p off m := by rw [hw2]; exact H4.out.drew
        have hb2 : Below w.heap.size w w2 := by rw [hw2]; exact hb.drew
        have hp2 : p < w2.heap.size := Nat.lt_of_lt_of_le h3 hb2.size
        clear hw2
        simp only [List.take_succ_cons, List.take_zero, List.drop_succ_cons, List.drop_zero]
        refine wpStill_rowLoadAt row8w rfl (.tmp 2) rfl rfl (arr_len 8 f) B2.range ?_
        repeat still_step
        refine wpStill_arrayAt rfl (.tmp 11) rfl rfl (by omega) ?_
        refine wpStill_rowLoadAt row64b rfl (.tmp 12) rfl rfl (arb_len 64 bb) (bytes_range S2 hge bb HHB.out) ?_
        refine wpStill_nil ?_
        go_wp2_with fail
        refine (block_any f bb HB.out (fun i _ => HBB.out i) _ (hk0.keep hb2)).mono ?_
        rintro e w3 ⟨rfl, hb3⟩
        have B3 := B2.keep hb3
        have Z3 := Z2.keep hb3
        have S3 : BSrc w3 p off m := fun i hi => (hb3.cell (p := ⟨p, off + i, none⟩) hp2).trans (S2 i hi)
        have hp3 : p < w3.heap.size := Nat.lt_of_lt_of_le hp2 hb3.size
        have hb4 := hb2.trans (hb3.mono hb2.size)
        clear B2 Z2 S2 hb2 hb3 hp2
        by_cases hc : cap = 64
        · subst hc
          have hm64 : m.length = 64 := by omega
          go_wp2_with (refine wpList_rowStore row8w rfl rfl (.tmp 2) (.tmp 14) rfl rfl rfl (arr_len 8 _) (arr_one 8 _) (arr_len 8 _) B3 ?_; intro w4 B4 m4)
          have S4 : BSrc w4 p off m := fun i hi => (World.cell?_of_block (w := w3) (m4.block p hp3 (by simp; omega))).trans (S3 i hi)
          have hb5 := Below.mod hb4 m4 (by have := B3.lt; omega) (by simp)
          exact ⟨⟨n + 1, by have := Hml.out; omega, .inr ⟨p, off, 0, by rw [HD.out]; simp [hm64], by rw [HD.out]; simp [hm64], by omega, h3, fun i hi => by rw [HD.out] at hi; simp [hm64] at hi⟩, by rw [HN.out]; exact B4, Z3.mod m4 (by simp), hb5⟩, by simp [lenS]; omega⟩
        · have hcap2 : ¬ (cap : Int) = 64 := by omega
          go_wp2_with (refine wpList_rowStore row8w rfl rfl (.tmp 2) (.tmp 14) rfl rfl rfl (arr_len 8 _) (arr_one 8 _) (arr_len 8 _) B3 ?_; intro w4 B4 m4)
          have S4 : BSrc w4 p off m := fun i hi => (World.cell?_of_block (w := w3) (m4.block p hp3 (by simp; omega))).trans (S3 i hi)
          have hb5 := Below.mod hb4 m4 (by have := B3.lt; omega) (by simp)
          have hdl : (m.drop 64).length = m.length - 64 := by simp
          exact ⟨⟨n + 1, by have := Hml.out; omega, .inr ⟨p, off + 64, cap - 64, by rw [HD.out, hdl], by rw [HD.out, hdl]; omega, by unfold maxLen; omega, h3, fun i hi => by
            rw [HD.out] at hi ⊢
            have h := S4 (64 + i) (by omega)
            rw [← Nat.add_assoc] at h
            rw [h]
            simp [List.getD]⟩, by rw [HN.out]; exact B4, Z3.mod m4 (by simp), hb5⟩, by simp [lenS]; omega⟩
      · have hn2 : l.length / 64 = n := by omega
        have hlt : ¬ (64 : Int) ≤ ((l.drop (64 * n)).length : Int) := by omega
        have HP : Hid (BlocksPost w g l = fun e w' => ∃ v', e = .returned (.tuple #[.agg (arr 8 (blkN g l n)).toArray, v']) ∧ BRow w' w.heap.size v' (l.drop (64 * n)) ∧ Below w.heap.size w w') := Lib.hid (by unfold BlocksPost; rw [hn2])
        clear hn2 hml h4
        obtain ⟨bc, bf, bl⟩ := id B
        obtain ⟨zc, zf, zl⟩ := id Z
        have HS := S.bs hb.size
        have HS2 := Lib.hid HS
        clear HS S
        generalize l.drop (64 * n) = m at *
        have hml' : m.length ≤ 64 := by omega
        go_wp2_with fail
        go_region_law (refine step_appBS rfl (.const (.slice none 0 0)) (.tmp 18) rfl wr.heap.size (.slice none 0 0) [] rfl (BRow.nil _ _) _ m rfl HS2.out (by simp; omega) (by simp) ?_; rintro v' w2 hB2 hg2; have hb2 := grown_nil hg2; have B2 := B.drew.keep hb2; have Z2 := Z.drew.keep hb2; obtain ⟨bc2, bf2, bl2⟩ := id B2; obtain ⟨zc2, zf2, zl2⟩ := id Z2)
        all_goals
          go_wp2_with fail
          have R := ((((((((Z2).set 0 (.int .u32 (blkN g l n 0))).set 1 (.int .u32 (blkN g l n 1))).set 2 (.int .u32 (blkN g l n 2))).set 3 (.int .u32 (blkN g l n 3))).set 4 (.int .u32 (blkN g l n 4))).set 5 (.int .u32 (blkN g l n 5))).set 6 (.int .u32 (blkN g l n 6))).set 7 (.int .u32 (blkN g l n 7))
          simp only [arr_set] at R
          rw [arr8_filled] at R
          refine bodyPost_ret (results_cellT rfl _ _ _ _ rfl (row_loadVar row8w _ (arr_len 8 _) R)) rfl ?_
          rw [HP.out]
          have hb3 : Below w.heap.size w w2 := hb.drew.trans (hb2.mono (by simp; exact hb.size))
          refine ⟨v', rfl, BRow.mono (hB2.kept (fun k hk => ?_)) (by omega), (((((((hb3.setCell (by simp) _).setCell (by simp) _).setCell (by simp) _).setCell (by simp) _).setCell (by simp) _).setCell (by simp) _).setCell (by simp) _).setCell (by simp) _⟩
          have hk2 := (ownBlock_lt hB2 k hk).1
          have hne : k ≠ w.heap.size + 1 := by omega
          have hne2 : w.heap.size + 1 ≠ k := by omega
          rw [Below.heap_setCell _ _ _ _ hne, Below.heap_setCell _ _ _ _ hne, Below.heap_setCell _ _ _ _ hne, Below.heap_setCell _ _ _ _ hne, Below.heap_setCell _ _ _ _ hne, Below.heap_setCell _ _ _ _ hne, Below.heap_setCell _ _ _ _ hne, Below.heap_setCell _ _ _ _ hne]

end Go.Proofs.YtmldonbmjgelnaaDoor
