/- Orac, WMade, Sign, Cert, CertC. -/
import Derived.DeepKeys4
import Derived.Maps.OwnSet
import Derived.Test.YthkpmlfaddlieaaGreatDoorMw18
set_option linter.unnecessarySimpa false
set_option linter.unusedSimpArgs false
set_option linter.unusedVariables false
set_option maxRecDepth 100000
set_option maxHeartbeats 32000000
namespace Go.Proofs.YthkpmlfaddlieaaGreatDoor
open Go.RowKit Go.WideMaps Go.Maps Pl
theorem laidG : laidOutB Tryz.prog = true := by kernel_rfl
theorem rowG : (109 : TypeId) < Tryz.prog.types.size := of_decide_eq_true (by kernel_rfl)
theorem wideG : (match Tryz.prog.underlying 109 with | some (.array _ _) | some (.struct _) => true | _ => false) = true := by kernel_rfl
theorem keyedG : Keyed Tryz.prog 109 := Keyed.of_law (deep_law_laid laidG (m := 3) (by omega) rowG (by kernel_rfl) wideG)
theorem typesG : ∃ n, Tryz.prog.types.size = n + 1 + 1 := ⟨Tryz.prog.types.size - 2, by kernel_rfl⟩
def kG (who mark : Bs) : Lit := .string (keyBytes [.string who, .string mark, .bool false])
theorem keyG (who mark : Bs) (h1 : who.length ≤ maxLen) (h2 : mark.length ≤ maxLen) : keyOf Tryz.prog 109 (.agg #[.string ⟨List.toArray who⟩, .string ⟨List.toArray mark⟩, .bool false]) = some (kG who mark) := by
 have hf : (Value.agg #[.string ⟨List.toArray who⟩, .string ⟨List.toArray mark⟩, .bool false]).formed Tryz.prog 109 = true := by
  have hc : Tryz.prog.cellsOf 109 = 3 := by kernel_rfl
  simp [Value.formed, Tryz.underlying109, hc]
 have hk : Tryz.prog.keyType 109 = true := by kernel_rfl
 obtain ⟨n, hn⟩ := typesG
 have hc : Tryz.prog.cellsOf 109 = 3 := by kernel_rfl
 have hs : Tryz.prog.cellsOf 9 = 1 := by kernel_rfl
 have hb : Tryz.prog.cellsOf 4 = 1 := by kernel_rfl
 have z1 : (⟨who.toArray⟩ : ByteArray).size ≤ maxLen := by simpa [ByteArray.size] using h1
 have z2 : (⟨mark.toArray⟩ : ByteArray).size ≤ maxLen := by simpa [ByteArray.size] using h2
 unfold keyOf
 rw [hn]
 simp [Tryz.underlying109, Tryz.underlying9, Tryz.underlying4, hf, hk, Program.keyLits, Value.cells, hc, hs, hb, z1, z2, kG]
theorem kG_inj {a b c d : Bs} (h1 : a.length ≤ maxLen) (h2 : b.length ≤ maxLen) (h3 : c.length ≤ maxLen) (h4 : d.length ≤ maxLen) (h : kG a b = kG c d) : a = c ∧ b = d := by
 have e1 := keyG a b h1 h2
 have e2 := keyG c d h3 h4
 rw [h] at e1
 have := keyedG.inj e1 e2
 injection this with this
 simpa using this
abbrev Sg := Bs × Bs × Bool
def keyOfS (x : Sg) : Bs × Bs := (x.1, x.2.1)
def idxD : List (Bs × Bs) → DataW Unit
 | [] => .map []
 | x :: r => (idxD r).put (kG x.1 x.2) (.lit (.int .i64 (r.length : Int)))
theorem idxD_map : ∀ r, IsMap (idxD r)
 | [] => ⟨[], rfl⟩
 | x :: r => (idxD_map r).put _ _
def Short (x : Bs × Bs) : Prop := x.1.length ≤ maxLen ∧ x.2.length ≤ maxLen
theorem idxD_has : ∀ (r : List (Bs × Bs)) (x : Bs × Bs), (∀ y ∈ r, Short y) → Short x → has (idxD r) (kG x.1 x.2) = decide (x ∈ r)
 | [], x, _, _ => by simp [idxD, has]
 | y :: r, x, h, hx => by
  have hy := h y (by simp)
  unfold idxD
  by_cases e : x = y
  ·subst e
   rw [has_put_same (idxD_map r) (by first | trivial | exact rfl | simp [WideAt.IsKeyLit])]
   simp
  ·rw [has_put_other (fun e2 => e (by obtain ⟨e3, e4⟩ := kG_inj hx.1 hx.2 hy.1 hy.2 e2; exact Prod.ext e3 e4)), idxD_has r x (fun z hz => h z (by simp [hz])) hx]
   simp [e]
def idxOf : List (Bs × Bs) → Bs × Bs → Nat
 | [], _ => 0
 | y :: r, x => if x = y then r.length else idxOf r x
theorem idxD_at : ∀ (r : List (Bs × Bs)) (x : Bs × Bs), (∀ y ∈ r, Short y) → Short x → (idxD r).atKey (kG x.1 x.2) (.lit (.int .i64 0)) = .lit (.int .i64 (idxOf r x : Int))
 | [], x, _, _ => rfl
 | y :: r, x, h, hx => by
  have hy := h y (by simp)
  unfold idxD idxOf
  by_cases e : x = y
  ·subst e
   rw [atKey_put_same (idxD_map r) (by first | trivial | exact rfl | simp [WideAt.IsKeyLit]), if_pos rfl]
  ·rw [atKey_put_other (fun e2 => e (by obtain ⟨e3, e4⟩ := kG_inj hx.1 hx.2 hy.1 hy.2 e2; exact Prod.ext e3 e4)), idxD_at r x (fun z hz => h z (by simp [hz])) hx, if_neg e]
theorem infoG : (Tryz.prog.info? 109).map (fun i => (i.zero, i.size, i.bytes)) = some (some (.agg #[.string ⟨#[]⟩, .string ⟨#[]⟩, .bool false]), 3, 40) := by kernel_rfl
def gv : List Sg → List Value
 | [] => []
 | x :: r => .string ⟨List.toArray x.1⟩ :: .string ⟨List.toArray x.2.1⟩ :: .bool x.2.2 :: gv r
theorem gv_len (l : List Sg) : (gv l).length = l.length * 3 := by
 induction l with
 | nil => rfl
 | cons x r ih => simp only [gv, List.length_cons, ih]; omega
theorem gv_app (a b : List Sg) : gv (a ++ b) = gv a ++ gv b := by
 induction a with
 | nil => rfl
 | cons x r ih => simp [gv, ih]
abbrev sg0' : Sg := ([], [], false)
theorem gv_at : ∀ (l : List Sg) (i : Nat), i < l.length → (gv l)[i * 3]? = some (.string ⟨List.toArray ((l.getD i sg0').1)⟩) ∧ (gv l)[i * 3 + 1]? = some (.string ⟨List.toArray ((l.getD i sg0').2.1)⟩) ∧ (gv l)[i * 3 + 2]? = some (.bool (l.getD i sg0').2.2)
 | x :: r, 0, _ => ⟨rfl, rfl, rfl⟩
 | x :: r, i + 1, hi => by
  have h := gv_at r i (by simpa using hi)
  rw [show (i + 1) * 3 = i * 3 + 1 + 1 + 1 from by omega]
  simpa [gv] using h
theorem gone : ∀ (l : List Sg), ∀ u ∈ gv l, u.oneCell' = true
 | [], u, h => by simp [gv] at h
 | x :: r, u, h => by
  simp only [gv, List.mem_cons] at h
  rcases h with rfl | rfl | rfl | h
  ·rfl
  ·rfl
  ·rfl
  ·exact gone r u h
def GSrc (w : World) (g o : Nat) (l : List Sg) : Prop := ∀ i, i < l.length → w.cell? ⟨g, o + i * 3, none⟩ = some (.string ⟨List.toArray ((l.getD i sg0').1)⟩) ∧ w.cell? ⟨g, o + i * 3 + 1, none⟩ = some (.string ⟨List.toArray ((l.getD i sg0').2.1)⟩) ∧ w.cell? ⟨g, o + i * 3 + 2, none⟩ = some (.bool (l.getD i sg0').2.2)
def GRow (w : World) (base : Nat) (v : Value) (l : List Sg) : Prop := w.ownsRow base 109 3 v l.length (gv l)
theorem GRow.nil (w : World) (base : Nat) : GRow w base (.slice none 0 0) [] := ⟨rfl, .inl ⟨rfl, rfl⟩⟩
theorem GRow.cells {w : World} {base : Nat} {v : Value} {l : List Sg} (h : GRow w base v l) :
  (v = .slice none 0 0 ∧ l = []) ∨ ∃ g cap, v = .slice (some ⟨g, 0, none⟩) l.length cap ∧ base ≤ g ∧ g < w.heap.size ∧ l.length ≤ cap ∧ cap ≤ maxLen ∧ GSrc w g 0 l ∧ ∀ o, w.frozen? ⟨g, o, none⟩ = false := by
 rcases h.2 with ⟨h1, h2⟩ | ⟨g, cap, cur, hv, hb, hg, hn, hm, hc, ht⟩
 ·exact .inl ⟨h1, List.length_eq_zero_iff.1 h2⟩
 ·refine .inr ⟨g, cap, hv, hb, ?_, hn, hm, fun i hi => ?_, fun o => ?_⟩
  ·rcases Nat.lt_or_ge g w.heap.size with hlt | hge
   ·exact hlt
   ·rw [Array.getElem?_eq_none hge] at hg; cases hg
  ·have h1 : ∀ j, j < l.length * 3 → w.cell? ⟨g, 0 + j, none⟩ = (gv l)[j]? := by
    intro j hj
    rw [← ht, List.getElem?_take, if_pos hj]
    simp [World.cell?, hg]
   obtain ⟨h2, h3, h4⟩ := gv_at l i hi
   exact ⟨(h1 (i * 3) (by omega)).trans h2, (h1 (i * 3 + 1) (by omega)).trans h3, (h1 (i * 3 + 2) (by omega)).trans h4⟩
  ·simp [World.frozen?, hg]
theorem GRow.form {w : World} {base : Nat} {v : Value} {l : List Sg} (h : GRow w base v l) : ∃ (a : Option Addr) (cap : Nat), v = .slice a l.length cap := by
 rcases h.cells with ⟨rfl, rfl⟩ | ⟨g, cap, rfl, _⟩
 ·exact ⟨none, 0, rfl⟩
 ·exact ⟨_, cap, rfl⟩
theorem GRow.own {w : World} {base : Nat} {v : Value} {l : List Sg} (h : GRow w base v l) : ∀ k, v.ownBlock = some k → base ≤ k ∧ k < w.heap.size := by
 intro k hk
 rcases h.cells with ⟨rfl, _⟩ | ⟨g, cap, rfl, hb, hg, _⟩
 ·cases hk
 ·cases hk; exact ⟨hb, hg⟩
theorem GRow.kept {w w' : World} {base : Nat} {v : Value} {l : List Sg} (h : GRow w base v l) (hb : ∀ k, v.ownBlock = some k → w'.heap[k]? = w.heap[k]?) : GRow w' base v l := by
 refine ⟨h.1, h.2.imp id ?_⟩
 rintro ⟨g, cap, cur, hv, h1, h2, h3⟩
 subst hv
 exact ⟨g, cap, cur, rfl, h1, (hb g rfl).trans h2, h3⟩
theorem GRow.keep {W w : World} {b : Nat} {v : Value} {l : List Sg} (h : GRow W b v l) (hb : Below W.heap.size W w) : GRow w b v l :=
 h.kept (fun k hk => hb.block k (h.own k hk).2)
theorem GRow.mod {w w' : World} {b : Nat} {v : Value} {l : List Sg} (h : GRow w b v l) {m : List Nat} (hm : Mod m w w') (hp : ∀ k, v.ownBlock = some k → k ∉ m) : GRow w' b v l :=
 h.kept (fun k hk => hm.block k (h.own k hk).2 (hp k hk))
theorem gsrc1 (w : World) (a b : Bs) (c : Bool) (t : TypeId) : GSrc (w.alloc (.cells #[.string ⟨List.toArray a⟩, .string ⟨List.toArray b⟩, .bool c] t)) w.heap.size 0 [(a, b, c)] := by
 intro i hi
 have : i = 0 := by simp at hi; omega
 subst this
 exact ⟨by simp, by simp, by simp⟩
theorem gsrc_news {w : World} {g o : Nat} {l : List Sg} (h : GSrc w g o l) : ∀ j u, (gv l)[j]? = some u → w.cell? ((⟨g, o, none⟩ : Addr).add j) = some u := by
 intro j u hj
 have hjl : j < l.length * 3 := by
  rcases Nat.lt_or_ge j (l.length * 3) with hlt | hge
  ·exact hlt
  ·rw [List.getElem?_eq_none (by rw [gv_len]; exact hge)] at hj; cases hj
 have hadd : (⟨g, o, none⟩ : Addr).add j = ⟨g, o + j, none⟩ := by unfold Addr.add; split <;> simp_all
 rw [hadd]
 obtain ⟨i, hi | hi | hi⟩ : ∃ i, j = i * 3 ∨ j = i * 3 + 1 ∨ j = i * 3 + 2 := ⟨j / 3, by omega⟩
 ·subst hi
  exact (h i (by omega)).1.trans (((gv_at l i (by omega)).1).symm.trans hj)
 ·subst hi
  have := (h i (by omega)).2.1
  rw [Nat.add_assoc] at this
  exact this.trans (((gv_at l i (by omega)).2.1).symm.trans hj)
 ·subst hi
  have := (h i (by omega)).2.2
  rw [Nat.add_assoc] at this
  exact this.trans (((gv_at l i (by omega)).2.2).symm.trans hj)
def Tab (w : World) (base p : Nat) (L : List Sg) : Prop :=
 ∃ b sv, base ≤ b ∧ b < p ∧ Blk w p #[.map (some b), sv] ∧ w.ownsMap Tryz.prog 109 (plainElem Tryz.prog 3) b L.length (idxD (L.map keyOfS).reverse) ∧ GRow w (p + 1) sv L ∧ ∀ x ∈ L, x.1.length ≤ 6 ∧ x.2.1.length = 32
theorem Tab.keep {W w : World} {base p : Nat} {L : List Sg} (h : Tab W base p L) (hb : Below W.heap.size W w) : Tab w base p L := by
 obtain ⟨b, sv, h1, h2, h3, h4, h5, h6⟩ := h
 exact ⟨b, sv, h1, h2, h3.keep hb, ownsMap_keep h4 hb, h5.keep hb, h6⟩
theorem Tab.lt {w : World} {base p : Nat} {L : List Sg} (h : Tab w base p L) : p < w.heap.size ∧ base ≤ p := by
 obtain ⟨b, sv, h1, h2, h3, _⟩ := h
 exact ⟨h3.lt, by omega⟩
theorem short_of {a b : Bs} (h1 : a.length ≤ 1000) (h2 : b.length ≤ 1000) : Short (a, b) := ⟨by unfold maxLen; simp; omega, by unfold maxLen; simp; omega⟩
theorem onew_any (w : World) :
  Calls Tryz.prog 26 #[] w fun e w' => e = .returned (.pointer (some ⟨w.heap.size + 1, 0, none⟩)) ∧ Tab w' w.heap.size (w.heap.size + 1) [] ∧ Below w.heap.size w w' := by
 have hmm := @run_makeMap Tryz.prog
 have hown : (w.alloc (.map #[] 0)).ownsMap (H := Unit) Tryz.prog 109 (plainElem Tryz.prog 3) w.heap.size 0 (.map []) := World.ownsMap_made _ _ _ _
 go_enter Tryz.func26, Tryz.ntmps26
 go_wp2_with fail
 go_ret
 refine ⟨rfl, ⟨w.heap.size, .slice none 0 0, Nat.le_refl _, by omega, ?_, hown.alloc _, GRow.nil _ _, fun x h => by simp at h⟩, ?_⟩
 ·exact Blk.new' (by simp)
 ·exact Below.allocS ((Below.refl _ _).alloc (Nat.le_refl _) _) _
theorem okey_any (who mark : Bs) (w : World) :
  Calls Tryz.prog 43 #[.string ⟨List.toArray who⟩, .string ⟨List.toArray mark⟩] w fun e w' => e = .returned (.agg #[.string ⟨List.toArray who⟩, .string ⟨List.toArray mark⟩, .bool false]) ∧ Below w.heap.size w w' := by
 have B0 : Blk (w.alloc (.cells #[.string ⟨List.toArray []⟩, .string ⟨List.toArray []⟩, .bool false] 109)) w.heap.size #[.string ⟨List.toArray []⟩, .string ⟨List.toArray []⟩, .bool false] := Blk.new _ _ _
 go_enter Tryz.func43, Tryz.ntmps43
 go_wp2_with fail
 refine bodyPost_ret (results_cell1 rfl _ _ _ _ rfl (row_loadVar (vs := [.string ⟨List.toArray who⟩, .string ⟨List.toArray mark⟩, .bool false]) (RowT.mk' Tryz.underlying109 rfl (by kernel_rfl)) _ rfl (Blk.new _ _ _))) rfl ?_
 exact ⟨rfl, by (repeat (first | exact Below.refl _ _ | assumption | apply Below.drew | apply below_drewN | apply Below.allocS | (refine Below.setCell ?_ (by simp <;> omega) _) | (refine Below.alloc ?_ (by simp <;> omega) _) | (refine Below.trans ?_ (Below.mono (by assumption) (by simp <;> omega)))))⟩
def isIn (L : List Sg) (who mark : Bs) : Bool := decide ((who, mark) ∈ L.map keyOfS)
theorem Tab.look {w : World} {base p b : Nat} {L : List Sg} {who mark : Bs} (h4 : w.ownsMap Tryz.prog 109 (plainElem Tryz.prog 3) b L.length (idxD (L.map keyOfS).reverse)) (h6 : ∀ x ∈ L, x.1.length ≤ 6 ∧ x.2.1.length = 32) (hw : who.length ≤ 1000) (hm : mark.length ≤ 1000) :
  (Instr.lookup 104 (.map (some b)) (.agg #[.string ⟨List.toArray who⟩, .string ⟨List.toArray mark⟩, .bool false]) true).run Tryz.prog w = .ok (.tuple #[.int .i64 ((idxOf (L.map keyOfS).reverse (who, mark) : Int)), .bool (isIn L who mark)]) w := by
 have hs := short_of hw hm
 have hsh : ∀ y ∈ (L.map keyOfS).reverse, Short y := by
  intro y hy
  simp only [List.mem_reverse, List.mem_map] at hy
  obtain ⟨x, hx, rfl⟩ := hy
  obtain ⟨q1, q2⟩ := h6 x hx
  exact short_of (by omega) (by omega)
 obtain ⟨v, ps, hrun, hR⟩ := h4.look_ok keyedG Tryz.underlying104 (zeroI _) (plainElem_int Tryz.underlying3 (by decide)) (keyG who mark hs.1 hs.2)
 rw [idxD_at _ (who, mark) hsh hs] at hR
 obtain ⟨c, rfl, hc, _⟩ := plainElem_int_inv Tryz.underlying3 hR
 rw [hrun, idxD_has _ (who, mark) hsh hs]
 injection hc with hc _
 injection hc with hc
 injection hc with _ hc
 rw [← hc]
 simp [isIn]
theorem osigned_any (base p : Nat) (L : List Sg) (who mark : Bs) (hw : who.length ≤ 1000) (hm : mark.length ≤ 1000) (w : World) (hT : Tab w base p L) :
  Calls Tryz.prog 15 #[.pointer (some ⟨p, 0, none⟩), .string ⟨List.toArray who⟩, .string ⟨List.toArray mark⟩] w fun e w' => e = .returned (.bool (isIn L who mark)) ∧ Below w.heap.size w w' := by
 obtain ⟨b, sv, h1, h2, B, h4, h5, h6⟩ := hT
 have hlook : ∀ w', Below w.heap.size w w' → (Instr.lookup 104 (.map (some b)) (.agg #[.string ⟨List.toArray who⟩, .string ⟨List.toArray mark⟩, .bool false]) true).run Tryz.prog w' = .ok (.tuple #[.int .i64 ((idxOf (L.map keyOfS).reverse (who, mark) : Int)), .bool (isIn L who mark)]) w' := fun w' hb => Tab.look (base := base) (p := p) (ownsMap_keep h4 hb) h6 hw hm
 generalize isIn L who mark = q at *
 generalize (idxOf (L.map keyOfS).reverse (who, mark) : Int) = n at *
 go_enter Tryz.func15, Tryz.ntmps15
 go_wp2_with fail
 refine wpH_start (by kernel_rfl) (fun hS => ?_)
 (refine hP 0 ?_ ⟨some 10, .move (.tmp 0), 43, "", #[], none⟩ hS ?_ ?_; rotate_left; focus (intro w; go_simp; try with_reducible rfl))
 try simp only [pna, pnb, pnc, pnd, pne]
 (refine hP 1 ?_ ⟨some 11, .nilCheck (.tmp 10), 0, "", #[], none⟩ hS ?_ ?_; rotate_left; focus (intro w; go_simp; try with_reducible rfl))
 try simp only [pna, pnb, pnc, pnd, pne]
 (refine hP 2 ?_ ⟨some 12, .fieldAddr 107 (.tmp 11) 0, 0, "", #[], none⟩ hS ?_ ?_; rotate_left; focus (intro w; go_simp; try with_reducible rfl))
 try simp only [pna, pnb, pnc, pnd, pne]
 refine wpH_load 3 (.map (some b)) (oi := { dst := some 13, op := Op.load 104 (Operand.tmp 12), type := 104, pos := "oracle.go:44", after := #[{ on := 2, ground := Ground.data }], guard := none }) rfl (by kernel_rfl) (by kernel_rfl) (by kernel_rfl) (by rfl) hS (fun _ _ _ h => h) (fun w hb => (by have c := (B.keep hb).cell 0; go_simp; try rfl)) ?_
 try simp only [pna, pnb, pnc, pnd, pne]
 (refine hP 4 ?_ ⟨some 14, .move (.tmp 1), 9, "", #[], none⟩ hS ?_ ?_; rotate_left; focus (intro w; go_simp; try with_reducible rfl))
 try simp only [pna, pnb, pnc, pnd, pne]
 (refine hP 5 ?_ ⟨some 15, .move (.tmp 2), 9, "", #[], none⟩ hS ?_ ?_; rotate_left; focus (intro w; go_simp; try with_reducible rfl))
 try simp only [pna, pnb, pnc, pnd, pne]
 refine wpH_call 6 (oi := { dst := some 16, op := Op.call { callee := Callee.value (Operand.func 43), args := #[Operand.tmp 14, Operand.tmp 15], argTypes := #[9, 9] }, type := 109, pos := "oracle.go:44", after := #[{ on := 4, ground := Ground.data }, { on := 5, ground := Ground.data }], guard := none }) rfl (by kernel_rfl) (by rfl) (okey_any who mark _) ?_ ?_
 ·(go_simp; try rfl)
 rintro e w' ⟨rfl, hbx⟩
 refine ⟨_, rfl, hS.trans (hbx.mono hS.size), ?_⟩
 replace hS := hS.trans (hbx.mono hS.size)
 try simp only [pna, pnb, pnc, pnd, pne]
 refine wpH_load 7 (.tuple #[.int .i64 n, .bool q]) (oi := { dst := some 17, op := Op.lookup 104 (Operand.tmp 13) (Operand.tmp 16) true, type := 103, pos := "oracle.go:44", after := #[{ on := 3, ground := Ground.data }, { on := 6, ground := Ground.data }], guard := none }) rfl (by kernel_rfl) (by kernel_rfl) (by kernel_rfl) (by rfl) hS (fun _ _ _ h => h) (fun w hb => (by have c := hlook w hb; go_simp; try exact c)) ?_
 try simp only [pna, pnb, pnc, pnd, pne]
 (refine hP 8 ?_ ⟨some 9, .move (.tmp 17), 103, "", #[], none⟩ hS ?_ ?_; rotate_left; focus (intro w; go_simp; try with_reducible rfl))
 try simp only [pna, pnb, pnc, pnd, pne]
 (refine hP 9 ?_ ⟨some 18, .extract (.tmp 9) 0, 3, "", #[], none⟩ hS ?_ ?_; rotate_left; focus (intro w; go_simp; try with_reducible rfl))
 try simp only [pna, pnb, pnc, pnd, pne]
 (refine hP 10 ?_ ⟨some 19, .extract (.tmp 9) 1, 4, "", #[], none⟩ hS ?_ ?_; rotate_left; focus (intro w; go_simp; try with_reducible rfl))
 try simp only [pna, pnb, pnc, pnd, pne]
 (refine hP 11 ?_ ⟨some 7, .assign (.tmp 18), 3, "", #[], none⟩ hS ?_ ?_; rotate_left; focus (intro w; go_simp; try with_reducible rfl))
 try simp only [pna, pnb, pnc, pnd, pne]
 (refine hP 12 ?_ ⟨some 8, .assign (.tmp 19), 4, "", #[], none⟩ hS ?_ ?_; rotate_left; focus (intro w; go_simp; try with_reducible rfl))
 try simp only [pna, pnb, pnc, pnd, pne]
 refine wpAnyH_done (by kernel_rfl) ?_ _
 go_wp2_with fail
 all_goals (go_ret; exact ⟨rfl, hS⟩)
theorem wp_mapUpd {P : Program} {o : Oper} {a : Act} {w : World} {K : Act → World → Prop} {Q : Exit → Act → World → Prop} (m x v : Operand) (t : TypeId) (hop : o.op = Op.mapUpdate t m x v)
  (k e : TypeId) (Kd : Keyed P k) (ht : P.underlying t = some (.map k e)) (R : Value → Option (DataW Unit × List MemPlace)) (b n : Nat) (D : DataW Unit)
  (hm : a.eval m = .map (some b)) (hown : w.ownsMap P k R b n D) (hn : n < maxLen) (key val : Value) (kl : Lit) (hx : a.eval x = key) (hv : a.eval v = val) (hkey : keyOf P k key = some kl)
  (d : DataW Unit) (ps : List MemPlace) (hval : R val = some (d, ps))
  (hK : ∀ w', w'.ownsMap P k R b (n + 1) (D.put kl d) → w.grownBy w' (some b) → K (a.put o.dst undef) w') : o.wp P a w K Q := by
 obtain ⟨w', hrun, r1, r2⟩ := hown.update Kd ht hn hkey hval
 unfold Oper.wp
 simp [execOp, hop, hm, hx, hv, hrun, Result.andThen]
 exact hK w' r1 r2
theorem ownsMap_mod {H : Type} {R : Value → Option (DataW H × List MemPlace)} {W w : World} {t : TypeId} {b n : Nat} {D : DataW H} {l : List Nat} (h : W.ownsMap Tryz.prog t R b n D) (hb : Mod l W w) (hn : b ∉ l) : w.ownsMap Tryz.prog t R b n D := by
 obtain ⟨es, clock, h1, h2⟩ := h
 refine ⟨es, clock, (hb.block b ?_ hn).trans h1, h2⟩
 rcases Nat.lt_or_ge b W.heap.size with hlt | hge
 ·exact hlt
 ·rw [Array.getElem?_eq_none hge] at h1; cases h1
theorem ownsMap_at {H : Type} {R : Value → Option (DataW H × List MemPlace)} {W w : World} {t : TypeId} {b n : Nat} {D : DataW H} (h : W.ownsMap Tryz.prog t R b n D) (hb : w.heap[b]? = W.heap[b]?) : w.ownsMap Tryz.prog t R b n D := by
 obtain ⟨es, clock, h1, h2⟩ := h
 exact ⟨es, clock, hb.trans h1, h2⟩
end Go.Proofs.YthkpmlfaddlieaaGreatDoor
namespace Go.Proofs.YthkpmlfaddlieaaGreatDoor
open Go.RowKit Go.Shelf Pl
def wdcs (va vs : Value) (many : Int) (vb : Value) : List Value := [va, vs, .int .i64 many, vb]
theorem row_wd : RowT Tryz.prog 26 4 := RowT.mk' Tryz.underlying26 rfl (by kernel_rfl)
def MadeO (W : World) (S : List (Bs × Int)) (e : Ending) (w' : World) : Prop := Below W.heap.size W w' ∧
 (e = .returned (.slice none 0 0) ∨ (∃ v E, e = .returned v ∧ EL w' v E ∧ LedI S E ∧ 2 ≤ E.length ∧ E.length ≤ 6))
theorem made_any (A : List Acc) (S : List (Bs × Int)) (many : Int) (va vs vb : Value) (w : World) (hA : AcL w va A) (hS : MS w vs S) :
  Calls Tryz.prog 6 #[.agg (wdcs va vs many vb).toArray] w (MadeO w S) := by
 have B0 : Blk (w.alloc (.cells (wdcs va vs many vb).toArray 26)) w.heap.size (wdcs va vs many vb).toArray := Blk.new _ _ _
 have hb0 : Below w.heap.size w (w.alloc (.cells (wdcs va vs many vb).toArray 26)) := Below.allocS (Below.refl _ _) _
 have q1 := rnew_any va vs A S _ (hA.keep hb0) (hS.keep hb0)
 have qb := fun W => below_any many 5 (by decide) (by decide) W
 have hK := modN_lt many 5 (by decide)
 obtain ⟨aa, ac, rfl⟩ := hA.form
 obtain ⟨sa, sc, rfl⟩ := hS.form
 generalize modN many 5 = K at *
 have c0 := B0.cell 0
 have c1 := B0.cell 1
 simp only [wdcs, List.getElem?_toArray, List.getElem?_cons_zero, List.getElem?_cons_succ] at c0 c1
 go_enter Tryz.func6, Tryz.ntmps6
 simp only [wdcs] at q1 c0 c1 B0 hb0 ⊢
 generalize hW : w.alloc (.cells (List.toArray [.slice aa A.length ac, .slice sa S.length sc, .int .i64 many, vb]) 26) = W at *
 go_wp2_with fail
 have B0' : Blk W w.heap.size (List.toArray [.slice aa A.length ac, .slice sa S.length sc, .int .i64 many, vb]) := B0
 have hbW : Below w.heap.size w W := hb0
 clear B0 hb0 hW
 refine q1.mono ?_
 rintro e w1 ⟨hb1, ⟨c, hc, rfl⟩ | ⟨v, E, rfl, hel, hled, hl1⟩⟩
 ·have hc2 : (c != 0) = true := by simpa using hc
  clear q1 qb
  go_wp2_with fail
  go_ret
  exact ⟨hbW.trans (hb1.mono hbW.size), .inl rfl⟩
 ·have HEL := Lib.hid hel
  have HLE := Lib.hid hled
  have hb01 := hbW.trans (hb1.mono hbW.size)
  have hB1 := B0'.keep hb1
  have HB1 := Lib.hid hB1
  clear q1 hel hled hb1 hB1 c0 c1 B0'
  go_wp2_with fail
  go_loopw [3, 5] (fun s3 s5 wr => ∃ (i : Nat) (E : List Ent), s5 = .int .i64 i ∧ i ≤ K + 1 ∧ Hid (EL wr s3 E) ∧ Hid (LedI S E) ∧ E.length = i + 1 ∧ Hid (Blk wr w.heap.size (List.toArray [.slice aa A.length ac, .slice sa S.length sc, .int .i64 many, vb])) ∧ Below w.heap.size w wr) (fun _ s5 _ => K + 1 - (intOf s5).toNat)
  case atStart => exact ⟨0, E, rfl, by omega, HEL, HLE, hl1, HB1, hb01⟩
  case round =>
   clear HEL HLE HB1 hb01
   obtain ⟨i, E, rfl, hi, HEL, HLE, hle, HB, hb⟩ := hrel
   obtain ⟨wr, hwr⟩ := Below.name hb
   subst hwr
   obtain ⟨ea, ec, hee⟩ := HEL.out.form
   have c2 := HB.out.cell 2
   simp only [List.getElem?_toArray, List.getElem?_cons_zero, List.getElem?_cons_succ] at c2
   have hi1 : IntKind.i64.wrap ((K : Int) + 1) = (K : Int) + 1 := by rw [IntKind.wrap_i64]; omega
   have hi2 : IntKind.i64.wrap ((i : Int) + 1) = (i : Int) + 1 := by rw [IntKind.wrap_i64]; omega
   by_cases hlt : i < K + 1
   ·have i1 : decide ((i : Int) < (K : Int) + 1) = true := by rw [decide_eq_true_eq]; omega
    have qa := radd_ent u3 E S wr HLE.out HEL.out (by omega)
    rw [hle] at qa hee
    rw [show (((i + 1 : Nat)) : Int) = (i : Int) + 1 from rfl] at qa
    subst hee
    have HLT := Lib.hid hlt
    clear hlt
    go_wp2_with fail
    refine (qb _).mono ?_
    rintro e w2 ⟨rfl, rfl⟩
    go_wp2_with fail
    refine qa.mono ?_
    rintro e w3 ⟨v3, E3, rfl, hel3, hled3, hl3, hb3⟩
    have HEL3 := Lib.hid hel3
    have HLE3 := Lib.hid hled3
    have HB3 := Lib.hid (HB.out.keep hb3)
    have HW3 := Lib.hid (hb.trans (hb3.mono hb.size))
    clear qa hel3 hled3 hb3
    go_wp2_with fail
    exact ⟨⟨i + 1, E3, by go_num, by have := HLT.out; omega, HEL3, HLE3, hl3, HB3, HW3.out⟩, by have := HLT.out; simp [intOf]; omega⟩
   ·have i1 : decide ((i : Int) < (K : Int) + 1) = false := by rw [decide_eq_false_iff_not]; omega
    have h2 : 2 ≤ E.length := by omega
    rw [hle] at hee
    subst hee
    clear hlt
    go_wp2_with fail
    refine (qb _).mono ?_
    rintro e w2 ⟨rfl, rfl⟩
    go_wp2_with fail
    go_ret
    exact ⟨hb, .inr ⟨_, E, rfl, HEL.out, HLE.out, h2, by omega⟩⟩
def badB (B : List Bs) (n : Bs) : Bool := B.any fun x => x == n
theorem bad_take (B : List Bs) (n : Bs) (i : Nat) (hi : i < B.length) : badB (B.take (i + 1)) n = (badB (B.take i) n || (B.getD i [] == n)) := by
 unfold badB
 rw [List.take_add_one, List.getElem?_eq_getElem hi, List.any_append, List.getD_eq_getElem?_getD, List.getElem?_eq_getElem hi]
 simp
theorem bad_at (B : List Bs) (n : Bs) (i : Nat) (hi : i < B.length) (h : B.getD i [] = n) : badB B n = true := by
 unfold badB
 rw [List.any_eq_true]
 refine ⟨B.getD i [], ?_, by simpa using h⟩
 rw [List.getD_eq_getElem?_getD, List.getElem?_eq_getElem hi]
 exact List.getElem_mem _
theorem isbad_any (va vs vb : Value) (many : Int) (B : List Bs) (n : Bs) (w : World) (hB : SS w vb B) :
  Calls Tryz.prog 16 #[.agg (wdcs va vs many vb).toArray, .string ⟨List.toArray n⟩] w fun e w' => e = .returned (.bool (badB B n)) ∧ Below w.heap.size w w' := by
 have B0 : Blk (w.alloc (.cells (wdcs va vs many vb).toArray 26)) w.heap.size (wdcs va vs many vb).toArray := Blk.new _ _ _
 have hb0 : Below w.heap.size w (w.alloc (.cells (wdcs va vs many vb).toArray 26)) := Below.allocS (Below.refl _ _) _
 have HV := Lib.hid (hB.keep hb0)
 obtain ⟨ba, bc, rfl⟩ := hB.form
 have hls := hB.small
 have c3 := B0.cell 3
 simp only [wdcs, List.getElem?_toArray, List.getElem?_cons_zero, List.getElem?_cons_succ] at c3
 have hb1 : Below w.heap.size w (w.alloc (.cells (wdcs va vs many (.slice ba B.length bc)).toArray 26)) := hb0
 generalize hr : badB B n = r
 have HR := Lib.hid hr
 clear B0 hB hb0 hr
 go_enter Tryz.func16, Tryz.ntmps16
 simp only [wdcs] at c3 HV hb1 ⊢
 go_wp2_with fail
 generalize w.alloc (.cells (List.toArray [va, vs, .int .i64 many, .slice ba B.length bc]) 26) = W at *
 go_loopw [5] (fun s5 wr => ∃ i : Nat, s5 = .int .i64 i ∧ i ≤ B.length ∧ Hid (badB (B.take i) n = false) ∧ wr = W) (fun s5 _ => B.length - (intOf s5).toNat)
 case atStart => exact ⟨0, rfl, by omega, Lib.hid rfl, rfl⟩
 case round =>
  obtain ⟨i, rfl, hi, HF, rfl⟩ := hrel
  by_cases hlt : i < B.length
  ·have i1 : decide ((i : Int) < (B.length : Int)) = true := by simp; omega
   have i2 : (i : Int) < (B.length : Int) := by omega
   obtain ⟨g, off, e1, c1⟩ := HV.out.at i hlt
   subst e1
   have HT := Lib.hid (bad_take B n i hlt)
   have HA := Lib.hid (bad_at B n i hlt)
   have HL := Lib.hid hlt
   generalize B.getD i [] = x at *
   clear hlt
   by_cases hx : x = n
   ·have k1 : (x == n) = true := by simpa using hx
    have HE : Hid (r = true) := Lib.hid (by rw [← HR.out]; exact HA.out hx)
    clear hx
    go_wp2_with fail
    go_ret
    exact ⟨by rw [HE.out]; rfl, hb1⟩
   ·have k1 : (x == n) = false := by simpa using hx
    have HF2 : Hid (badB (B.take (i + 1)) n = false) := Lib.hid (by rw [HT.out, HF.out, k1]; rfl)
    clear hx
    go_wp2_with fail
    exact ⟨⟨i + 1, by go_num, by have := HL.out; omega, HF2, trivial⟩, by have := HL.out; simp [intOf]; omega⟩
  ·have i1 : decide ((i : Int) < (B.length : Int)) = false := by simp; omega
   have HE : Hid (r = false) := Lib.hid (by rw [← HR.out]; have := HF.out; rwa [List.take_of_length_le (by omega)] at this)
   have i3 : decide (i < B.length) = false := by rw [decide_eq_false_iff_not]; omega
   have i4 : ¬ i < B.length := by omega
   go_wp2_with fail
   go_ret
   exact ⟨by rw [HE.out]; rfl, hb1⟩
def BoL (w : World) (v : Value) (l : List Bool) : Prop :=
 ∃ a cap, v = .slice a l.length cap ∧ l.length ≤ cap ∧ cap ≤ maxLen ∧ (l ≠ [] → ∃ g off, a = some ⟨g, off, none⟩ ∧ g < w.heap.size ∧ ∀ i, i < l.length → w.cell? ⟨g, off + i, none⟩ = some (.bool (l.getD i false)))
theorem BoL.keep {W w : World} {v : Value} {l : List Bool} (h : BoL W v l) (hb : Below W.heap.size W w) : BoL w v l := by
 obtain ⟨a, cap, h1, h2, h3, h4⟩ := h
 refine ⟨a, cap, h1, h2, h3, fun hl => ?_⟩
 obtain ⟨g, off, e, hg, hc⟩ := h4 hl
 exact ⟨g, off, e, Nat.lt_of_lt_of_le hg hb.size, fun i hi => (hb.cell (p := ⟨g, off + i, none⟩) hg).trans (hc i hi)⟩
theorem BoL.form {w : World} {v : Value} {l : List Bool} (h : BoL w v l) : ∃ a c, v = .slice a l.length c := by
 obtain ⟨a, cap, h1, _⟩ := h
 exact ⟨a, cap, h1⟩
theorem BoL.small {w : World} {v : Value} {l : List Bool} (h : BoL w v l) : l.length ≤ 9223372036854775807 := by
 obtain ⟨a, cap, h1, h2, h3, _⟩ := h
 unfold maxLen at h3; omega
theorem BoL.at {w : World} {a : Option Addr} {c : Nat} {l : List Bool} (h : BoL w (.slice a l.length c) l) (i : Nat) (hi : i < l.length) :
  ∃ g off, a = some ⟨g, off, none⟩ ∧ g < w.heap.size ∧ w.cell? ⟨g, off + i, none⟩ = some (.bool (l.getD i false)) := by
 obtain ⟨a', cap, h1, _, _, h5⟩ := h
 injection h1 with h1 _ _
 obtain ⟨g, off, e, hg, hc⟩ := h5 (by intro e; rw [e] at hi; simp at hi)
 exact ⟨g, off, h1.trans e, hg, hc i hi⟩
def namedL (S : List (Bs × Int)) (l : List Bool) : Nat → List Bs
 | 0 => []
 | i + 1 => namedL S l i ++ (if l.length ≤ i ∨ l.getD i false = true then [(S.getD i ([], 0)).1] else [])
theorem namedL_len (S : List (Bs × Int)) (l : List Bool) : ∀ i, (namedL S l i).length ≤ i
 | 0 => Nat.le_refl _
 | i + 1 => by
  have := namedL_len S l i
  unfold namedL
  rw [List.length_append]
  split <;> simp <;> omega
def NamO (W : World) (L : List Bs) (e : Ending) (w' : World) : Prop := ∃ v, e = .returned v ∧ SRow w' W.heap.size v L ∧ Below W.heap.size W w'
theorem named_any (vs vl : Value) (S : List (Bs × Int)) (l : List Bool) (w : World) (hS : MS w vs S) (hl : BoL w vl l) (hs7 : S.length ≤ 1000) :
  Calls Tryz.prog 32 #[vs, vl] w (NamO w (namedL S l S.length)) := by
 obtain ⟨sa, sc, rfl⟩ := hS.form
 obtain ⟨la, lc, rfl⟩ := hl.form
 have hls := hl.small
 have HS := Lib.hid hS
 have HL := Lib.hid hl
 clear hS hl
 go_enter Tryz.func32, Tryz.ntmps32
 go_wp2_with fail
 go_loopw [5, 6] (fun s5 s6 wr => ∃ i : Nat, s6 = .int .i64 i ∧ i ≤ S.length ∧ Hid (SRow wr w.heap.size s5 (namedL S l i)) ∧ Below w.heap.size w wr) (fun _ s6 _ => S.length - (intOf s6).toNat)
 case atStart => exact ⟨0, rfl, by omega, Lib.hid (SRow.nil _ _), Below.refl _ _⟩
 case round =>
  obtain ⟨i, rfl, hi, HR, hb⟩ := hrel
  obtain ⟨wr, hwr⟩ := Below.name hb
  subst hwr
  by_cases hlt : i < S.length
  ·have i1 : decide ((i : Int) < (S.length : Int)) = true := by simp; omega
   have i2 : (i : Int) < (S.length : Int) := by omega
   obtain ⟨g, off, e1, hg, c1, _⟩ := (HS.out.keep hb).at i hlt
   subst e1
   have HNL := Lib.hid (namedL_len S l i)
   have HST : Hid (namedL S l (i + 1) = namedL S l i ++ (if l.length ≤ i ∨ l.getD i false = true then [(S.getD i ([], 0)).1] else [])) := Lib.hid rfl
   generalize (S.getD i ([], 0)).1 = nm at *
   by_cases hle : l.length ≤ i
   ·have k1 : decide ((l.length : Int) ≤ (i : Int)) = true := by rw [decide_eq_true_eq]; omega
    have k2 : decide (l.length ≤ i) = true := by rw [decide_eq_true_eq]; omega
    have HN2 : Hid (namedL S l (i + 1) = namedL S l i ++ [nm]) := Lib.hid (by rw [HST.out, if_pos (.inl hle)])
    go_wp2_with (first
     | (at_builtin; refine wpList_appS rfl (.tmp 23) (.tmp 29) rfl w.heap.size _ (namedL S l i) rfl (HR.out.keep (Below.allocS (Below.refl _ _) _)) _ 0 1 1 [nm] rfl rfl (ssrc1 _ nm 9) (by have := HNL.out; omega) (by have := hb.size; simp; omega) ?_; intro v5 w5 hr5 hb5)
     | fail)
    exact ⟨⟨i + 1, by go_num, by omega, Lib.hid (by rw [HN2.out]; exact hr5), (Below.allocS hb _).trans hb5⟩, by simp [intOf]; omega⟩
   ·have k1 : decide ((l.length : Int) ≤ (i : Int)) = false := by rw [decide_eq_false_iff_not]; omega
    have k2 : decide (l.length ≤ i) = false := by rw [decide_eq_false_iff_not]; omega
    have k3 : (i : Int) < (l.length : Int) := by omega
    obtain ⟨g2, o2, e2, _, d1⟩ := (HL.out.keep hb).at i (by omega)
    subst e2
    cases hv : l.getD i false
    ·rw [hv] at d1
     have HN2 : Hid (namedL S l (i + 1) = namedL S l i) := Lib.hid (by rw [HST.out, if_neg (by rw [hv]; simp; omega), List.append_nil])
     clear hv
     go_wp2_with fail
     exact ⟨⟨i + 1, by go_num, by omega, Lib.hid (by rw [HN2.out]; exact HR.out), hb⟩, by simp [intOf]; omega⟩
    ·rw [hv] at d1
     have HN2 : Hid (namedL S l (i + 1) = namedL S l i ++ [nm]) := Lib.hid (by rw [HST.out, if_pos (.inr hv)])
     clear hv
     go_wp2_with (first
      | (at_builtin; refine wpList_appS rfl (.tmp 23) (.tmp 29) rfl w.heap.size _ (namedL S l i) rfl (HR.out.keep (Below.allocS (Below.refl _ _) _)) _ 0 1 1 [nm] rfl rfl (ssrc1 _ nm 9) (by have := HNL.out; omega) (by have := hb.size; simp; omega) ?_; intro v5 w5 hr5 hb5)
      | fail)
     exact ⟨⟨i + 1, by go_num, by omega, Lib.hid (by rw [HN2.out]; exact hr5), (Below.allocS hb _).trans hb5⟩, by simp [intOf]; omega⟩
  ·have i1 : decide ((i : Int) < (S.length : Int)) = false := by simp; omega
   have i3 : decide (i < S.length) = false := by rw [decide_eq_false_iff_not]; omega
   have e1 : i = S.length := by omega
   have HR2 : Hid (SRow wr w.heap.size u5 (namedL S l S.length)) := Lib.hid (by rw [← e1]; exact HR.out)
   clear e1
   go_wp2_with fail
   go_ret
   exact ⟨_, rfl, HR2.out, hb⟩
end Go.Proofs.YthkpmlfaddlieaaGreatDoor
namespace Go.Proofs.YthkpmlfaddlieaaGreatDoor
open Go.RowKit Go.WideMaps Go.Maps Pl
theorem idxOf_get : ∀ (r : List (Bs × Bs)) (x : Bs × Bs), x ∈ r → idxOf r x < r.length ∧ r.reverse[idxOf r x]? = some x
 | y :: r, x, h => by
  unfold idxOf
  by_cases e : x = y
  ·subst e
   rw [if_pos rfl]
   refine ⟨by simp, ?_⟩
   rw [List.reverse_cons, List.getElem?_append_right (by simp)]
   simp
  ·rw [if_neg e]
   have hx : x ∈ r := by
    rcases List.mem_cons.1 h with h | h
    ·exact absurd h e
    ·exact h
   obtain ⟨h1, h2⟩ := idxOf_get r x hx
   refine ⟨by simp; omega, ?_⟩
   rw [List.reverse_cons, List.getElem?_append_left (by simpa using h1)]
   exact h2
def placeG (L : List Sg) (who mark : Bs) : Nat := idxOf (L.map keyOfS).reverse (who, mark)
theorem placeG_get (L : List Sg) (who mark : Bs) (h : isIn L who mark = true) : placeG L who mark < L.length ∧ (L.getD (placeG L who mark) sg0').1 = who ∧ (L.getD (placeG L who mark) sg0').2.1 = mark := by
 have hm : (who, mark) ∈ (L.map keyOfS).reverse := by
  unfold isIn at h
  simpa using h
 obtain ⟨h1, h2⟩ := idxOf_get _ _ hm
 rw [List.reverse_reverse] at h2
 unfold placeG
 generalize idxOf (L.map keyOfS).reverse (who, mark) = i at *
 have hi : i < L.length := by simpa using h1
 rw [List.getElem?_map, List.getElem?_eq_getElem hi] at h2
 simp only [Option.map_some, Option.some.injEq, keyOfS, Prod.mk.injEq] at h2
 rw [List.getD_eq_getElem?_getD, List.getElem?_eq_getElem hi]
 exact ⟨hi, h2.1, h2.2⟩
theorem gv_set : ∀ (L : List Sg) (i : Nat) (b : Bool), i < L.length → (gv L).set (i * 3 + 2) (.bool b) = gv (L.set i ((L.getD i sg0').1, (L.getD i sg0').2.1, b))
 | x :: r, 0, b, _ => rfl
 | x :: r, i + 1, b, h => by
  have ih := gv_set r i b (by simpa using h)
  rw [show (i + 1) * 3 + 2 = i * 3 + 2 + 1 + 1 + 1 from by omega]
  simp only [gv, List.set_cons_succ, List.getD_cons_succ]
  rw [ih]
theorem take_set {α : Type} : ∀ (l : List α) (n k : Nat) (x : α), (l.set k x).take n = (l.take n).set k x
 | [], n, k, x => by simp
 | y :: l, 0, k, x => by simp
 | y :: l, n + 1, 0, x => by simp
 | y :: l, n + 1, k + 1, x => by simp [take_set l n k x]
theorem heap_setCell {w : World} {g o : Nat} {cur : Array Value} {e : TypeId} {fr : Nat × Nat} {v : Value} (h : w.heap[g]? = some (.cells cur e fr)) : (w.setCell ⟨g, o, none⟩ v).heap[g]? = some (.cells (cur.setIfInBounds o v) e fr) := by
 unfold World.setCell
 simp [Array.getElem?_modify, h]
theorem GRow.set {w : World} {base : Nat} {v : Value} {L : List Sg} (h : GRow w base v L) {i : Nat} (hi : i < L.length) (b : Bool) :
  ∃ g cap, v = .slice (some ⟨g, 0, none⟩) L.length cap ∧ base ≤ g ∧ g < w.heap.size ∧ w.cell? ⟨g, i * 3 + 2, none⟩ = some (.bool (L.getD i sg0').2.2) ∧ w.frozen? ⟨g, i * 3 + 2, none⟩ = false ∧
   GRow (w.setCell ⟨g, i * 3 + 2, none⟩ (.bool b)) base v (L.set i ((L.getD i sg0').1, (L.getD i sg0').2.1, b)) := by
 rcases h.cells with ⟨_, rfl⟩ | ⟨g, cap, hv, h1, h2, h3, h4, h5, h6⟩
 ·simp at hi
 ·have hc := (h5 i hi).2.2
  rw [Nat.zero_add] at hc
  refine ⟨g, cap, hv, h1, h2, hc, h6 _, ?_⟩
  rcases h.2 with ⟨h0, _⟩ | ⟨g', cap', cur, hv', q1, q2, q3, q4, q5, q6⟩
  ·rw [hv] at h0; cases h0
  ·rw [hv] at hv'
   injection hv' with e1 _ e3
   injection e1 with e1
   injection e1 with e1 _ _
   subst e1 e3
   refine ⟨by rw [gv_len], .inr ⟨g, cap, _, by rw [hv, List.length_set], q1, heap_setCell q2, by rw [List.length_set]; exact q3, q4, by simpa using q5, ?_⟩⟩
   rw [Array.toList_setIfInBounds, List.length_set, ← gv_set L i b hi, ← q6, take_set]
theorem GRow.setA {w : World} {base g n cap : Nat} {L : List Sg} (h : GRow w base (.slice (some ⟨g, 0, none⟩) n cap) L) {i : Nat} (hi : i < L.length) (b : Bool) :
  w.cell? ⟨g, i * 3 + 2, none⟩ = some (.bool (L.getD i sg0').2.2) ∧ w.frozen? ⟨g, i * 3 + 2, none⟩ = false ∧
   GRow (w.setCell ⟨g, i * 3 + 2, none⟩ (.bool b)) base (.slice (some ⟨g, 0, none⟩) n cap) (L.set i ((L.getD i sg0').1, (L.getD i sg0').2.1, b)) := by
 obtain ⟨g', cap', hv, _, _, h3, h4, h5⟩ := h.set hi b
 have hg : g = g' := by injection hv with e _ _; injection e with e; injection e
 subst hg
 exact ⟨h3, h4, h5⟩
def signL (L : List Sg) (who mark : Bs) (honest : Bool) : List Sg × Int :=
 if who = [] ∨ 6 < who.length then (L, 1) else if mark.length ≠ 32 then (L, 3)
 else if isIn L who mark then (L.set (placeG L who mark) (who, mark, (L.getD (placeG L who mark) sg0').2.2 && honest), 0)
 else if 1024 ≤ L.length then (L, 2) else (L ++ [(who, mark, honest)], 0)
theorem keys_set (L : List Sg) (who mark : Bs) (b : Bool) (h : isIn L who mark = true) : (L.set (placeG L who mark) (who, mark, b)).map keyOfS = L.map keyOfS := by
 obtain ⟨h1, h2, h3⟩ := placeG_get L who mark h
 rw [List.map_set]
 have : keyOfS (who, mark, b) = (L.map keyOfS)[placeG L who mark]'(by simpa using h1) := by
  rw [List.getD_eq_getElem?_getD, List.getElem?_eq_getElem h1] at h2 h3
  simp only [Option.getD_some] at h2 h3
  simp only [List.getElem_map, keyOfS]
  rw [h2, h3]
 rw [this, List.set_getElem_self]
end Go.Proofs.YthkpmlfaddlieaaGreatDoor
namespace Go.Proofs.YthkpmlfaddlieaaGreatDoor
open Go.RowKit Pl
namespace Pl
def mayC (d : Bs) (l : List Bs) : Bool := decide (d.length = 32) && decide (l.length ≤ 7) && okS [] l
def lastS (l : List Bs) : Nat → Bs
 | 0 => []
 | i + 1 => l.getD i []
end Pl
def CV (w : World) (v : Value) (d : Bs) (l : List Bs) : Prop := ∃ u, v = .agg #[.string ⟨List.toArray d⟩, u] ∧ SS w u l
theorem cmay_any (v : Value) (d : Bs) (l : List Bs) (w : World) (hv : CV w v d l) :
  Calls Tryz.prog 76 #[v] w fun e w' => e = .returned (.bool (mayC d l)) ∧ Below w.heap.size w w' := by
 generalize hr : mayC d l = r
 have HR := Lib.hid hr
 clear hr
 obtain ⟨u, rfl, hu⟩ := hv
 obtain ⟨a, c, rfl⟩ := hu.form
 have hm := hu.small
 have HV := Lib.hid hu
 clear hu
 by_cases hd : d.length = 32
 ·have hd1 : ((d.length : Int) != 32) = false := by simp; omega
  by_cases h7 : 7 < l.length
  ·have hd2 : decide ((7 : Int) < (l.length : Int)) = true := by simp; omega
   have HD := Lib.hid hd
   clear hd
   go_enter Tryz.func76, Tryz.ntmps76
   go_wp2_with fail
   all_goals (go_ret; refine ⟨?_, Below.allocS (Below.refl _ _) _⟩; rw [← HR.out]; have : ¬ l.length ≤ 7 := (by omega); simp [mayC, this])
  ·have hd2 : decide ((7 : Int) < (l.length : Int)) = false := by simp; omega
   have HR2 : Hid (okS [] l = r) := Lib.hid (by rw [← HR.out]; have : l.length ≤ 7 := (by omega); simp [mayC, this, hd])
   have HD := Lib.hid hd
   clear hd HR
   go_enter Tryz.func76, Tryz.ntmps76
   go_wp2_with fail
   go_loopw [3, 19] (fun s3 s19 wr => ∃ i : Nat, i ≤ l.length ∧ s19 = .int .i64 i ∧ s3 = .string ⟨List.toArray (lastS l i)⟩ ∧ Hid (okS (lastS l i) (l.drop i) = r) ∧ Below w.heap.size w wr) (fun _ s19 _ => l.length - (intOf s19).toNat)
   case atStart => exact ⟨0, by omega, rfl, rfl, HR2, Below.allocS (Below.refl _ _) _⟩
   case round =>
    obtain ⟨i, hi, rfl, rfl, HI, hb⟩ := hrel
    obtain ⟨wq, h⟩ := Below.nm hb
    subst h
    by_cases hlt : i < l.length
    ·obtain ⟨g, off, rfl, c1⟩ := (HV.out.keep hb).at i hlt
     have hi2 := HI.out
     rw [dropS l i hlt] at hi2
     have hnx : lastS l (i + 1) = l.getD i [] := rfl
     generalize hx : l.getD i [] = x at *
     unfold okS at hi2
     generalize lastS l i = z at *
     cases hle : leS x z
     ·by_cases h6 : (6 : Int) < (x.length : Int)
      ·have HI2 : Hid (false = r) := Lib.hid (by rw [← hi2, hle]; simp [h6])
       clear HI hi2
       go_wp2_with fail
       all_goals (go_ret; refine ⟨?_, hb⟩; rw [← HI2.out]; rfl)
      ·have HI2 : Hid (okS x (l.drop (i + 1)) = r) := Lib.hid (by rw [← hi2, hle]; simp [h6])
       clear HI hi2
       go_wp2_with fail
       exact ⟨⟨i + 1, by omega, by go_num, by rw [hnx], by rw [hnx]; exact HI2, hb⟩, by simp [intOf]; omega⟩
     ·have HI2 : Hid (false = r) := Lib.hid (by rw [← hi2, hle]; simp)
      clear HI hi2
      go_wp2_with fail
      all_goals (go_ret; refine ⟨?_, hb⟩; rw [← HI2.out]; rfl)
    ·obtain rfl : i = l.length := by omega
     go_wp2_with fail
     all_goals (go_ret; refine ⟨?_, hb⟩; rw [← HI.out]; simp [okS])
 ·have hd1 : ((d.length : Int) != 32) = true := by simp; omega
  have HD := Lib.hid hd
  clear hd
  go_enter Tryz.func76, Tryz.ntmps76
  go_wp2_with fail
  all_goals (go_ret; refine ⟨?_, Below.allocS (Below.refl _ _) _⟩; rw [← HR.out]; simp [mayC, HD.out])
end Go.Proofs.YthkpmlfaddlieaaGreatDoor
namespace Go.Proofs.YthkpmlfaddlieaaGreatDoor
open Go.RowKit Pl
namespace Pl
theorem okS_len : ∀ (l : List Bs) (z : Bs), okS z l = true → ∀ i, i < l.length → (l.getD i []).length ≤ 6
 | n :: r, z, h, i, hi => by
  simp only [okS, Bool.and_eq_true, Bool.not_eq_true', Bool.or_eq_false_iff, decide_eq_false_iff_not] at h
  obtain ⟨⟨h1, h2⟩, h5⟩ := h
  match i with
  | 0 => simp; omega
  | j + 1 => exact okS_len r n h5 j (by simpa using hi)
theorem mayC_parts {d : Bs} {l : List Bs} (h : mayC d l = true) : d.length = 32 ∧ l.length ≤ 7 ∧ okS [] l = true ∧ ∀ i, i < l.length → (l.getD i []).length ≤ 6 := by
 simp only [mayC, Bool.and_eq_true, decide_eq_true_eq] at h
 exact ⟨h.1.1, h.1.2, h.2, okS_len l [] h.2⟩
end Pl
end Go.Proofs.YthkpmlfaddlieaaGreatDoor
