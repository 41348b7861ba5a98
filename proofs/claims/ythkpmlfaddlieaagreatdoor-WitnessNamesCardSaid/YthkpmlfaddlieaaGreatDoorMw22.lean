/- SignF. -/
import Derived.Test.YthkpmlfaddlieaaGreatDoorMw19
set_option linter.unnecessarySimpa false
set_option linter.unusedSimpArgs false
set_option linter.unusedVariables false
set_option maxRecDepth 100000
set_option maxHeartbeats 32000000
namespace Go.Proofs.YthkpmlfaddlieaaGreatDoor
open Go.RowKit Go.WideMaps Go.Maps Pl
def Foreign (w : World) (p k : Nat) : Prop := k ≠ p ∧ ∃ cs t f, w.heap[k]? = some (.cells cs t f) ∧ t ≠ 109
theorem Foreign.notMap {H : Type} {R : Value → Option (DataW H × List MemPlace)} {w : World} {t : TypeId} {b n p : Nat} {D : DataW H} (h : w.ownsMap Tryz.prog t R b n D) : ¬ Foreign w p b := by
 obtain ⟨es, clock, h1, h2⟩ := h
 rintro ⟨_, cs, t, f, h3, _⟩
 rw [h1] at h3; cases h3
theorem Foreign.notRow {w : World} {base p k : Nat} {v : Value} {L : List Sg} (h : GRow w base v L) (hk : v.ownBlock = some k) : ¬ Foreign w p k := by
 rcases h.2 with ⟨h1, _⟩ | ⟨g, cap, cur, hv, hb, hg, _⟩
 ·rw [h1] at hk; cases hk
 ·rw [hv] at hk; cases hk
  rintro ⟨_, cs, t, f, h3, h4⟩
  rw [hg] at h3
  injection h3 with h3
  injection h3 with _ h3 _
  exact h4 h3.symm
theorem Foreign.lt {w : World} {p k : Nat} (h : Foreign w p k) : k < w.heap.size := by
 obtain ⟨_, cs, t, f, h3, _⟩ := h
 rcases Nat.lt_or_ge k w.heap.size with hlt | hge
 ·exact hlt
 ·rw [Array.getElem?_eq_none hge] at h3; cases h3
structure OrF (p : Nat) (w w' : World) : Prop where
 os : w'.os = w.os
 tape : w'.tape = w.tape
 output : w'.output = w.output
 size : w.heap.size ≤ w'.heap.size
 block : ∀ k, Foreign w p k → w'.heap[k]? = w.heap[k]?
theorem OrF.refl (p : Nat) (w : World) : OrF p w w := ⟨rfl, rfl, rfl, Nat.le_refl _, fun _ _ => rfl⟩
theorem Foreign.keep {w w' : World} {p k : Nat} (h : Foreign w p k) (hb : w'.heap[k]? = w.heap[k]?) : Foreign w' p k := ⟨h.1, by rw [hb]; exact h.2⟩
theorem OrF.trans {p : Nat} {a b c : World} (h : OrF p a b) (k : OrF p b c) : OrF p a c :=
 ⟨k.os.trans h.os, k.tape.trans h.tape, k.output.trans h.output, Nat.le_trans h.size k.size, fun x hx => (k.block x (hx.keep (h.block x hx))).trans (h.block x hx)⟩
theorem OrF.below {p : Nat} {w w' : World} (h : Below w.heap.size w w') : OrF p w w' := ⟨h.os, h.tape, h.output, h.size, fun k hk => h.block k hk.lt⟩
theorem OrF.mod {p : Nat} {w w' : World} {l : List Nat} (h : Mod l w w') (hl : ∀ k ∈ l, ¬ Foreign w p k) : OrF p w w' := ⟨h.os, h.tape, h.output, h.size, fun k hk => h.block k hk.lt (fun hx => hl k hx hk)⟩
theorem OrF.grown {p : Nat} {w w' : World} {row : Option Nat} (h : w.grownBy w' row) (hl : ∀ k, row = some k → ¬ Foreign w p k) : OrF p w w' := by
 rcases row with _ | r
 ·exact .below (grown_below h (Nat.le_refl _) (fun k hk => by cases hk))
 ·exact .mod (grown_mod h) (fun k hk => by have e : k = r := (by simpa using hk); subst e; exact hl k rfl)
theorem Blk.orf {p : Nat} {w w' : World} {b : Nat} {cs : Array Value} (h : Blk w b cs) (hf : Foreign w p b) (m : OrF p w w') : Blk w' b cs := h.of_block (m.block b hf) m.size
section
variable {ops : Array Oper} {o : Oper} {rest : List Oper} {a : Act} {w : World} {Q : Exit → Act → World → Prop}
theorem wpList_appGF (hgd : o.guard = none) (s x : Operand)
  (ho : o.op = .call { callee := .builtin .append, args := #[s, x], argTypes := #[105, 105] })
  (base : Nat) (v : Value) (l : List Sg) (hs : a.eval s = v) (hown : GRow w base v l)
  (g off m c : Nat) (news : List Sg) (hx : a.eval x = .slice (some ⟨g, off, none⟩) m c) (hm : news.length = m) (hsrc : GSrc w g off news)
  (hlen : l.length + m ≤ 1099511627000) (hbase : base ≤ w.heap.size)
  (h : ∀ v' w', GRow w' base v' (l ++ news) → Below base w w' → w.grownBy w' v.ownBlock → wpList Tryz.prog ops Q rest (a.put o.dst v') w') : wpList Tryz.prog ops Q (o :: rest) a w := by
 refine wpList_plain hgd fun _ hK => ?_
 obtain ⟨i0, hi, hz0, hz1, hz2⟩ := info_parts infoG
 refine wp_append_own w s x 105 ho base 109 i0 (.agg #[.string ⟨#[]⟩, .string ⟨#[]⟩, .bool false]) 3 40 Tryz.underlying105 hi hz0 hz1 hz2 rfl (by decide) v l.length (gv l) hs hown ⟨g, off, none⟩ m c (gv news) hx (by rw [gv_len, hm]) (gsrc_news hsrc) (gone news)
  (by unfold maxLen; omega) (by omega) hbase (fun v' w' h2 h3 _ => hK _ _ (h v' w' ?_ (grown_below h3 hbase (fun k hk => (hown.own k hk).1)) h3))
 unfold GRow
 rw [List.length_append, hm, gv_app]
 exact h2
end
theorem osignf_new (base p : Nat) (L : List Sg) (who mark : Bs) (honest : Bool) (hw0 : who ≠ []) (hw : who.length ≤ 6) (hm : mark.length = 32) (hn : L.length < 1024) (hnew : isIn L who mark = false) (w : World) (hT : Tab w base p L) :
  Calls Tryz.prog 35 #[.pointer (some ⟨p, 0, none⟩), .string ⟨List.toArray who⟩, .string ⟨List.toArray mark⟩, .bool honest] w fun e w' => e = .returned (.int .i64 0) ∧ Tab w' base p (L ++ [(who, mark, honest)]) ∧ Below base w w' ∧ OrF p w w' := by
 obtain ⟨b, sv, h1, h2, B, h4, h5, h6⟩ := hT
 have hlook : ∀ w', Below w.heap.size w w' → (Instr.lookup 104 (.map (some b)) (.agg #[.string ⟨List.toArray who⟩, .string ⟨List.toArray mark⟩, .bool false]) true).run Tryz.prog w' = .ok (.tuple #[.int .i64 ((idxOf (L.map keyOfS).reverse (who, mark) : Int)), .bool (isIn L who mark)]) w' := fun w' hb => Tab.look (base := base) (p := p) (ownsMap_keep h4 hb) h6 (by omega) (by omega)
 rw [hnew] at hlook
 generalize (idxOf (L.map keyOfS).reverse (who, mark) : Int) = n at *
 have e1 : (who == []) = false := by simpa using hw0
 have e2 : decide ((6 : Int) < (who.length : Int)) = false := by simp; omega
 have e3 : ((mark.length : Int) != 32) = false := by simp; omega
 have HM := Lib.hid hm
 have hwf : (Lit.int .i64 (L.length : Int)).wf = true := by have h := wrap64_wf (L.length : Int); rw [← IntWalk.i64_left, IntWalk.i64_in _ (by omega)] at h; exact h
 clear hm
 go_enter Tryz.func35, Tryz.ntmps35
 go_wp2_with fail
 refine wpH_start (by kernel_rfl) (fun hS => ?_)
 (refine hP 0 ?_ ⟨some 22, .move (.tmp 0), 43, "", #[], none⟩ hS ?_ ?_; rotate_left; focus (intro w; go_simp; try with_reducible rfl))
 try simp only [pna, pnb, pnc, pnd, pne]
 (refine hP 1 ?_ ⟨some 23, .nilCheck (.tmp 22), 0, "", #[], none⟩ hS ?_ ?_; rotate_left; focus (intro w; go_simp; try with_reducible rfl))
 try simp only [pna, pnb, pnc, pnd, pne]
 (refine hP 2 ?_ ⟨some 24, .fieldAddr 107 (.tmp 23) 0, 0, "", #[], none⟩ hS ?_ ?_; rotate_left; focus (intro w; go_simp; try with_reducible rfl))
 try simp only [pna, pnb, pnc, pnd, pne]
 refine wpH_load 3 (.map (some b)) (oi := { dst := some 25, op := Op.load 104 (Operand.tmp 24), type := 104, pos := "oracle.go:30", after := #[{ on := 2, ground := Ground.data }], guard := none }) rfl (by kernel_rfl) (by kernel_rfl) (by kernel_rfl) (by rfl) hS (fun _ _ _ h => h) (fun w hb => (by have c := (B.keep hb).cell 0; go_simp; try rfl)) ?_
 try simp only [pna, pnb, pnc, pnd, pne]
 (refine hP 4 ?_ ⟨some 26, .move (.tmp 1), 9, "", #[], none⟩ hS ?_ ?_; rotate_left; focus (intro w; go_simp; try with_reducible rfl))
 try simp only [pna, pnb, pnc, pnd, pne]
 (refine hP 5 ?_ ⟨some 27, .move (.tmp 2), 9, "", #[], none⟩ hS ?_ ?_; rotate_left; focus (intro w; go_simp; try with_reducible rfl))
 try simp only [pna, pnb, pnc, pnd, pne]
 refine wpH_call 6 (oi := { dst := some 28, op := Op.call { callee := Callee.value (Operand.func 43), args := #[Operand.tmp 26, Operand.tmp 27], argTypes := #[9, 9] }, type := 109, pos := "oracle.go:30", after := #[{ on := 4, ground := Ground.data }, { on := 5, ground := Ground.data }], guard := none }) rfl (by kernel_rfl) (by rfl) (okey_any who mark _) ?_ ?_
 ·(go_simp; try rfl)
 rintro e w' ⟨rfl, hbx⟩
 refine ⟨_, rfl, hS.trans (hbx.mono hS.size), ?_⟩
 replace hS := hS.trans (hbx.mono hS.size)
 try simp only [pna, pnb, pnc, pnd, pne]
 refine wpH_load 7 (.tuple #[.int .i64 n, .bool false]) (oi := { dst := some 29, op := Op.lookup 104 (Operand.tmp 25) (Operand.tmp 28) true, type := 103, pos := "oracle.go:30", after := #[{ on := 3, ground := Ground.data }, { on := 6, ground := Ground.data }], guard := none }) rfl (by kernel_rfl) (by kernel_rfl) (by kernel_rfl) (by rfl) hS (fun _ _ _ h => h) (fun w hb => (by have c := hlook w hb; go_simp; try exact c)) ?_
 try simp only [pna, pnb, pnc, pnd, pne]
 (refine hP 8 ?_ ⟨some 21, .move (.tmp 29), 103, "", #[], none⟩ hS ?_ ?_; rotate_left; focus (intro w; go_simp; try with_reducible rfl))
 try simp only [pna, pnb, pnc, pnd, pne]
 (refine hP 9 ?_ ⟨some 30, .extract (.tmp 21) 0, 3, "", #[], none⟩ hS ?_ ?_; rotate_left; focus (intro w; go_simp; try with_reducible rfl))
 try simp only [pna, pnb, pnc, pnd, pne]
 (refine hP 10 ?_ ⟨some 31, .extract (.tmp 21) 1, 4, "", #[], none⟩ hS ?_ ?_; rotate_left; focus (intro w; go_simp; try with_reducible rfl))
 try simp only [pna, pnb, pnc, pnd, pne]
 (refine hP 11 ?_ ⟨some 9, .assign (.tmp 30), 3, "", #[], none⟩ hS ?_ ?_; rotate_left; focus (intro w; go_simp; try with_reducible rfl))
 try simp only [pna, pnb, pnc, pnd, pne]
 (refine hP 12 ?_ ⟨some 10, .assign (.tmp 31), 4, "", #[], none⟩ hS ?_ ?_; rotate_left; focus (intro w; go_simp; try with_reducible rfl))
 try simp only [pna, pnb, pnc, pnd, pne]
 refine wpAnyH_done (by kernel_rfl) ?_ _
 have B2 := B.keep hS
 obtain ⟨b1, b2, b3⟩ := id B2
 have hown2 := ownsMap_keep h4 hS
 have hG2 := h5.keep hS
 obtain ⟨va, vc, rfl⟩ := h5.form
 have e4 : decide ((1024 : Int) ≤ (L.length : Int)) = false := by simp; omega
 go_wp2_with fail
 have hbase : base ≤ w.heap.size := by have := B.lt; omega
 have hbq := hS.mono hbase
 have hqs := hS.size
 obtain ⟨wq, hq⟩ := Below.nm hS
 subst hq
 have F1 : OrF p w wq := .below hS
 have FB : ¬ Foreign wq p b := Foreign.notMap hown2
 clear hS hlook h4 h5 B
 refine wpH_startM [b] (by kernel_rfl) (fun hS => ?_)
 (refine hP 0 ?_ ⟨some 57, .move (.tmp 0), 43, "", #[], none⟩ hS ?_ ?_; rotate_left; focus (intro w; go_simp; try with_reducible rfl))
 try simp only [pna, pnb, pnc, pnd, pne]
 (refine hP 1 ?_ ⟨some 58, .nilCheck (.tmp 57), 0, "", #[], none⟩ hS ?_ ?_; rotate_left; focus (intro w; go_simp; try with_reducible rfl))
 try simp only [pna, pnb, pnc, pnd, pne]
 (refine hP 2 ?_ ⟨some 59, .fieldAddr 107 (.tmp 58) 0, 0, "", #[], none⟩ hS ?_ ?_; rotate_left; focus (intro w; go_simp; try with_reducible rfl))
 try simp only [pna, pnb, pnc, pnd, pne]
 refine wpH_load 3 (.map (some b)) (oi := { dst := some 60, op := Op.load 104 (Operand.tmp 59), type := 104, pos := "oracle.go:37", after := #[{ on := 2, ground := Ground.data }], guard := none }) rfl (by kernel_rfl) (by kernel_rfl) (by kernel_rfl) (by rfl) hS (fun _ _ _ h => h) (fun w hb => (by have c := (B2.mod hb (by simp; omega)).cell 0; go_simp; try rfl)) ?_
 try simp only [pna, pnb, pnc, pnd, pne]
 (refine hP 4 ?_ ⟨some 61, .move (.tmp 1), 9, "", #[], none⟩ hS ?_ ?_; rotate_left; focus (intro w; go_simp; try with_reducible rfl))
 try simp only [pna, pnb, pnc, pnd, pne]
 (refine hP 5 ?_ ⟨some 62, .move (.tmp 2), 9, "", #[], none⟩ hS ?_ ?_; rotate_left; focus (intro w; go_simp; try with_reducible rfl))
 try simp only [pna, pnb, pnc, pnd, pne]
 (refine hP 7 ?_ ⟨some 64, .move (.tmp 0), 43, "", #[], none⟩ hS ?_ ?_; rotate_left; focus (intro w; go_simp; try with_reducible rfl))
 try simp only [pna, pnb, pnc, pnd, pne]
 (refine hP 8 ?_ ⟨some 65, .nilCheck (.tmp 64), 0, "", #[], none⟩ hS ?_ ?_; rotate_left; focus (intro w; go_simp; try with_reducible rfl))
 try simp only [pna, pnb, pnc, pnd, pne]
 (refine hP 9 ?_ ⟨some 66, .fieldAddr 107 (.tmp 65) 1, 0, "", #[], none⟩ hS ?_ ?_; rotate_left; focus (intro w; go_simp; try with_reducible rfl))
 try simp only [pna, pnb, pnc, pnd, pne]
 refine wpH_load 10 (.slice va L.length vc) (oi := { dst := some 67, op := Op.load 105 (Operand.tmp 66), type := 105, pos := "oracle.go:37", after := #[{ on := 9, ground := Ground.data }], guard := none }) rfl (by kernel_rfl) (by kernel_rfl) (by kernel_rfl) (by rfl) hS (fun _ _ _ h => h) (fun w hb => (by have c := (B2.mod hb (by simp; omega)).cell 1; go_simp; try rfl)) ?_
 try simp only [pna, pnb, pnc, pnd, pne]
 (refine hP 11 ?_ ⟨some 68, .call { callee := .builtin .len, args := #[.tmp 67], argTypes := #[105] }, 3, "", #[], none⟩ hS ?_ ?_; rotate_left; focus (intro w; go_simp; try with_reducible rfl))
 try simp only [pna, pnb, pnc, pnd, pne]
 refine wpH_call 6 (oi := { dst := some 63, op := Op.call { callee := Callee.value (Operand.func 43), args := #[Operand.tmp 61, Operand.tmp 62], argTypes := #[9, 9] }, type := 109, pos := "oracle.go:37", after := #[{ on := 4, ground := Ground.data }, { on := 5, ground := Ground.data }], guard := none }) rfl (by kernel_rfl) (by rfl) (okey_any who mark _) ?_ ?_
 ·(go_simp; try rfl)
 rintro e w' ⟨rfl, hbx⟩
 refine ⟨_, rfl, hS.trans (Mod.of_below hbx), ?_⟩
 replace hS := hS.trans (Mod.of_below hbx)
 try simp only [pna, pnb, pnc, pnd, pne]
 refine wpH_op 12 (oi := { dst := none, op := Op.mapUpdate 104 (Operand.tmp 60) (Operand.tmp 63) (Operand.tmp 68), type := 0, pos := "oracle.go:37", after := #[{ on := 3, ground := Ground.data }, { on := 6, ground := Ground.data }, { on := 11, ground := Ground.data }, { on := 6, ground := Ground.chain }, { on := 0, ground := Ground.phase }, { on := 1, ground := Ground.phase }, { on := 2, ground := Ground.phase }, { on := 3, ground := Ground.phase }, { on := 4, ground := Ground.phase }, { on := 5, ground := Ground.phase }, { on := 6, ground := Ground.phase }, { on := 7, ground := Ground.phase }, { on := 8, ground := Ground.phase }, { on := 9, ground := Ground.phase }, { on := 10, ground := Ground.phase }, { on := 11, ground := Ground.phase }], guard := none }) rfl (by kernel_rfl) (by rfl) ?_
 refine wp_mapUpd (.tmp 60) (.tmp 63) (.tmp 68) 104 rfl 109 3 keyedG Tryz.underlying104 (plainElem Tryz.prog 3) b L.length _ rfl (ownsMap_keep (World.ownsMap.drew hown2) hbx) (by unfold maxLen; omega) _ _ (kG who mark) rfl rfl (keyG who mark (by unfold maxLen; omega) (by unfold maxLen; have := HM.out; omega)) _ [] (plainElem_int Tryz.underlying3 hwf) ?_
 rintro w7 hown7 hg7
 have m7 : Mod [b] _ w7 := hS.trans (grown_mod hg7)
 refine ⟨m7, ?_⟩
 try simp only [pna, pnb, pnc, pnd, pne]
 refine wpAnyH_done (by kernel_rfl) ?_ _
 have F2 : OrF p w w7 := F1.trans (.mod m7 (by simpa using FB))
 have B7 := B2.mod m7 (by simp; omega)
 have hG7 := hG2.mod m7 (fun k hk => by have := (hG2.own k hk).1; simp; omega)
 have hb7 : Below base w w7 := Below.mod hbq m7 (by omega) (by simp; omega)
 have hs7 := m7.size
 have hlt7 := B7.lt
 clear b1 b2 b3 hG2 B2
 obtain ⟨b1, b2, b3⟩ := id B7
 go_wp2_with (first
  | (at_builtin; refine wpList_appGF rfl (.tmp 73) (.tmp 78) rfl (p + 1) _ L rfl (hG7.keep (Below.allocS (Below.refl _ _) _)) w7.heap.size 0 1 1 [(who, mark, honest)] rfl rfl (gsrc1 _ _ _ _ _) (by omega) (by simp; omega) ?_; rintro v8 w8 hG8 hb8 hg8; obtain ⟨va8, vc8, rfl⟩ := hG8.form; have B8 := (B7.alloc (.cells #[.string ⟨List.toArray who⟩, .string ⟨List.toArray mark⟩, .bool honest] 109)).of_block (hb8.block p (Nat.lt_succ_self _)) hb8.size; clear b1 b2 b3; obtain ⟨b1, b2, b3⟩ := id B8)
  | fail)
 go_ret
 have F3 : OrF p w w8 := (F2.trans (.below (Below.allocS (Below.refl _ _) (.cells #[.string ⟨List.toArray who⟩, .string ⟨List.toArray mark⟩, .bool honest] 109)))).trans (.grown hg8 (fun k hk => Foreign.notRow (hG7.keep (Below.allocS (Below.refl _ _) (.cells #[.string ⟨List.toArray who⟩, .string ⟨List.toArray mark⟩, .bool honest] 109))) hk))
 have hb9 : Below base w w8 := (Below.alloc hb7 (by omega) (.cells #[.string ⟨List.toArray who⟩, .string ⟨List.toArray mark⟩, .bool honest] 109)).trans (hb8.mono (by omega))
 have hown8 := ownsMap_at (hown7.alloc (.cells #[.string ⟨List.toArray who⟩, .string ⟨List.toArray mark⟩, .bool honest] 109)) (hb8.block b (by omega))
 rw [show (L ++ [(who, mark, honest)]).length = L.length + 1 from by simp] at hG8
 refine ⟨rfl, ⟨b, .slice va8 (L.length + 1) vc8, h1, h2, B8.set 1 _, ?_, hG8.mod ((Mod.refl [p] _).setCell (.inl (by simp)) _) (fun k hk => by have := (hG8.own k hk).1; simp; omega), ?_⟩, hb9.setCell (by simp; omega) _, F3.trans (.mod ((Mod.refl [p] _).setCell (.inl (by simp)) _) (by simp [Foreign]))⟩
 ·have h := hown8.setCell (a := ⟨p, 1, none⟩) (by simp; omega) (.slice va8 (L.length + 1) vc8)
  have hd : idxD ((L ++ [(who, mark, honest)]).map keyOfS).reverse = (idxD (L.map keyOfS).reverse).put (kG who mark) (.lit (.int .i64 (L.length : Int))) := by simp [idxD, keyOfS]
  rw [hd, List.length_append]
  exact h
 ·intro x hx
  rcases List.mem_append.1 hx with hx | hx
  ·exact h6 x hx
  ·simp at hx
   subst hx
   exact ⟨hw, HM.out⟩
theorem osignf_any (base p : Nat) (L : List Sg) (who mark : Bs) (honest : Bool) (hwl : who.length ≤ 9223372036854775807) (hml : mark.length ≤ 9223372036854775807) (w : World) (hT : Tab w base p L) :
  Calls Tryz.prog 35 #[.pointer (some ⟨p, 0, none⟩), .string ⟨List.toArray who⟩, .string ⟨List.toArray mark⟩, .bool honest] w fun e w' => e = .returned (.int .i64 ((signL L who mark honest).2)) ∧ Tab w' base p (signL L who mark honest).1 ∧ Below base w w' ∧ OrF p w w' := by
 by_cases hw0 : who = []
 ·rw [show signL L who mark honest = (L, 1) from by simp [signL, hw0]]
  subst hw0
  go_enter Tryz.func35, Tryz.ntmps35
  go_wp2_with fail
  all_goals (go_ret; exact ⟨rfl, hT, Below.refl _ _, .refl _ _⟩)
 ·have e1 : (who == []) = false := by simpa using hw0
  by_cases hw6 : 6 < who.length
  ·rw [show signL L who mark honest = (L, 1) from by simp [signL, hw6]]
   have e2 : decide ((6 : Int) < (who.length : Int)) = true := by simp; omega
   go_enter Tryz.func35, Tryz.ntmps35
   go_wp2_with fail
   all_goals (go_ret; exact ⟨rfl, hT, Below.refl _ _, .refl _ _⟩)
  ·have e2 : decide ((6 : Int) < (who.length : Int)) = false := by simp; omega
   by_cases hm : mark.length = 32
   ·by_cases hin : isIn L who mark = true
    ·obtain ⟨i1, i2, i3⟩ := placeG_get L who mark hin
     rw [show signL L who mark honest = (L.set (placeG L who mark) (who, mark, (L.getD (placeG L who mark) sg0').2.2 && honest), 0) from by simp [signL, hw0, hw6, hm, hin]]
     have hks := keys_set L who mark ((L.getD (placeG L who mark) sg0').2.2 && honest) hin
     obtain ⟨b, sv, h1, h2, B, h4, h5, h6⟩ := hT
     obtain ⟨g, cap, rfl, hg1, hg2, _, _, _⟩ := h5.set i1 true
     have hset : ∀ w' b', Below w.heap.size w w' → w'.cell? ⟨g, placeG L who mark * 3 + 2, none⟩ = some (.bool (L.getD (placeG L who mark) sg0').2.2) ∧ w'.frozen? ⟨g, placeG L who mark * 3 + 2, none⟩ = false ∧
       GRow (w'.setCell ⟨g, placeG L who mark * 3 + 2, none⟩ (.bool b')) (p + 1) (.slice (some ⟨g, 0, none⟩) L.length cap) (L.set (placeG L who mark) (who, mark, b')) := by
      intro w' b' hb
      have := (h5.keep hb).setA i1 b'
      rw [i2, i3] at this
      exact this
     have hlook : ∀ w', Below w.heap.size w w' → (Instr.lookup 104 (.map (some b)) (.agg #[.string ⟨List.toArray who⟩, .string ⟨List.toArray mark⟩, .bool false]) true).run Tryz.prog w' = .ok (.tuple #[.int .i64 ((placeG L who mark : Int)), .bool (isIn L who mark)]) w' := fun w' hb => Tab.look (base := base) (p := p) (ownsMap_keep h4 hb) h6 (by omega) (by omega)
     rw [hin] at hlook
     have HKS := Lib.hid hks
     generalize (L.getD (placeG L who mark) sg0').2.2 = old at *
     generalize placeG L who mark = i at *
     have e3 : ((mark.length : Int) != 32) = false := by simp; omega
     have HM := Lib.hid hm
     have HI := Lib.hid i2
     clear hm i2 i3 hks
     have hbase : base ≤ w.heap.size := by have := B.lt; omega
     go_enter Tryz.func35, Tryz.ntmps35
     go_wp2_with fail
     refine wpH_start (by kernel_rfl) (fun hS => ?_)
     (refine hP 0 ?_ ⟨some 22, .move (.tmp 0), 43, "", #[], none⟩ hS ?_ ?_; rotate_left; focus (intro w; go_simp; try with_reducible rfl))
     try simp only [pna, pnb, pnc, pnd, pne]
     (refine hP 1 ?_ ⟨some 23, .nilCheck (.tmp 22), 0, "", #[], none⟩ hS ?_ ?_; rotate_left; focus (intro w; go_simp; try with_reducible rfl))
     try simp only [pna, pnb, pnc, pnd, pne]
     (refine hP 2 ?_ ⟨some 24, .fieldAddr 107 (.tmp 23) 0, 0, "", #[], none⟩ hS ?_ ?_; rotate_left; focus (intro w; go_simp; try with_reducible rfl))
     try simp only [pna, pnb, pnc, pnd, pne]
     refine wpH_load 3 (.map (some b)) (oi := { dst := some 25, op := Op.load 104 (Operand.tmp 24), type := 104, pos := "oracle.go:30", after := #[{ on := 2, ground := Ground.data }], guard := none }) rfl (by kernel_rfl) (by kernel_rfl) (by kernel_rfl) (by rfl) hS (fun _ _ _ h => h) (fun w hb => (by have c := (B.keep hb).cell 0; go_simp; try rfl)) ?_
     try simp only [pna, pnb, pnc, pnd, pne]
     (refine hP 4 ?_ ⟨some 26, .move (.tmp 1), 9, "", #[], none⟩ hS ?_ ?_; rotate_left; focus (intro w; go_simp; try with_reducible rfl))
     try simp only [pna, pnb, pnc, pnd, pne]
     (refine hP 5 ?_ ⟨some 27, .move (.tmp 2), 9, "", #[], none⟩ hS ?_ ?_; rotate_left; focus (intro w; go_simp; try with_reducible rfl))
     try simp only [pna, pnb, pnc, pnd, pne]
     refine wpH_call 6 (oi := { dst := some 28, op := Op.call { callee := Callee.value (Operand.func 43), args := #[Operand.tmp 26, Operand.tmp 27], argTypes := #[9, 9] }, type := 109, pos := "oracle.go:30", after := #[{ on := 4, ground := Ground.data }, { on := 5, ground := Ground.data }], guard := none }) rfl (by kernel_rfl) (by rfl) (okey_any who mark _) ?_ ?_
     ·(go_simp; try rfl)
     rintro e w' ⟨rfl, hbx⟩
     refine ⟨_, rfl, hS.trans (hbx.mono hS.size), ?_⟩
     replace hS := hS.trans (hbx.mono hS.size)
     try simp only [pna, pnb, pnc, pnd, pne]
     refine wpH_load 7 (.tuple #[.int .i64 i, .bool true]) (oi := { dst := some 29, op := Op.lookup 104 (Operand.tmp 25) (Operand.tmp 28) true, type := 103, pos := "oracle.go:30", after := #[{ on := 3, ground := Ground.data }, { on := 6, ground := Ground.data }], guard := none }) rfl (by kernel_rfl) (by kernel_rfl) (by kernel_rfl) (by rfl) hS (fun _ _ _ h => h) (fun w hb => (by have c := hlook w hb; go_simp; try exact c)) ?_
     try simp only [pna, pnb, pnc, pnd, pne]
     (refine hP 8 ?_ ⟨some 21, .move (.tmp 29), 103, "", #[], none⟩ hS ?_ ?_; rotate_left; focus (intro w; go_simp; try with_reducible rfl))
     try simp only [pna, pnb, pnc, pnd, pne]
     (refine hP 9 ?_ ⟨some 30, .extract (.tmp 21) 0, 3, "", #[], none⟩ hS ?_ ?_; rotate_left; focus (intro w; go_simp; try with_reducible rfl))
     try simp only [pna, pnb, pnc, pnd, pne]
     (refine hP 10 ?_ ⟨some 31, .extract (.tmp 21) 1, 4, "", #[], none⟩ hS ?_ ?_; rotate_left; focus (intro w; go_simp; try with_reducible rfl))
     try simp only [pna, pnb, pnc, pnd, pne]
     (refine hP 11 ?_ ⟨some 9, .assign (.tmp 30), 3, "", #[], none⟩ hS ?_ ?_; rotate_left; focus (intro w; go_simp; try with_reducible rfl))
     try simp only [pna, pnb, pnc, pnd, pne]
     (refine hP 12 ?_ ⟨some 10, .assign (.tmp 31), 4, "", #[], none⟩ hS ?_ ?_; rotate_left; focus (intro w; go_simp; try with_reducible rfl))
     try simp only [pna, pnb, pnc, pnd, pne]
     refine wpAnyH_done (by kernel_rfl) ?_ _
     have B2 := B.keep hS
     obtain ⟨hgc, hgf, _⟩ := hset _ true hS
     have hgr := fun b' => (hset _ b' hS).2.2
     have hown2 := ownsMap_keep h4 hS
     obtain ⟨b1, b2, b3⟩ := id B2
     have hbq := hS.mono hbase
     go_wp2_with fail
     have hbx1 : 0 ≤ (i : Int) ∧ (i : Int) < (L.length : Int) := by omega
     have hqs := hS.size
     obtain ⟨wq, hq⟩ := Below.nm hS
     subst hq
     have F1 : OrF p w wq := .below hS
     have FG : ¬ Foreign wq p g := Foreign.notRow (h5.keep hS) rfl
     clear hS hlook hset h4 h5 B
     have hgf2 : wq.drew.frozen? ⟨g, i * 3 + 2, none⟩ = false := hgf
     cases old
     all_goals
      refine wpH_startM [g] (by kernel_rfl) (fun hS => ?_)
      (refine hP 0 ?_ ⟨some 33, .move (.tmp 0), 43, "", #[], none⟩ hS ?_ ?_; rotate_left; focus (intro w; go_simp; try with_reducible rfl))
      try simp only [pna, pnb, pnc, pnd, pne]
      (refine hP 1 ?_ ⟨some 34, .nilCheck (.tmp 33), 0, "", #[], none⟩ hS ?_ ?_; rotate_left; focus (intro w; go_simp; try with_reducible rfl))
      try simp only [pna, pnb, pnc, pnd, pne]
      (refine hP 2 ?_ ⟨some 35, .fieldAddr 107 (.tmp 34) 1, 0, "", #[], none⟩ hS ?_ ?_; rotate_left; focus (intro w; go_simp; try with_reducible rfl))
      try simp only [pna, pnb, pnc, pnd, pne]
      refine wpH_load 3 (.slice (some ⟨g, 0, none⟩) L.length cap) (oi := { dst := some 36, op := Op.load 105 (Operand.tmp 35), type := 105, pos := "oracle.go:31", after := #[{ on := 2, ground := Ground.data }], guard := none }) rfl (by kernel_rfl) (by kernel_rfl) (by kernel_rfl) (by rfl) hS (fun _ _ _ h => h) (fun w hb => (by have c := (B2.mod hb (by simp; omega)).cell 1; go_simp; try rfl)) ?_
      try simp only [pna, pnb, pnc, pnd, pne]
      (refine hP 4 ?_ ⟨some 37, .move (.tmp 9), 3, "", #[], none⟩ hS ?_ ?_; rotate_left; focus (intro w; go_simp; try with_reducible rfl))
      try simp only [pna, pnb, pnc, pnd, pne]
      (refine hP 5 ?_ ⟨some 38, .move (.tmp 0), 43, "", #[], none⟩ hS ?_ ?_; rotate_left; focus (intro w; go_simp; try with_reducible rfl))
      try simp only [pna, pnb, pnc, pnd, pne]
      (refine hP 6 ?_ ⟨some 39, .nilCheck (.tmp 38), 0, "", #[], none⟩ hS ?_ ?_; rotate_left; focus (intro w; go_simp; try with_reducible rfl))
      try simp only [pna, pnb, pnc, pnd, pne]
      (refine hP 7 ?_ ⟨some 40, .fieldAddr 107 (.tmp 39) 1, 0, "", #[], none⟩ hS ?_ ?_; rotate_left; focus (intro w; go_simp; try with_reducible rfl))
      try simp only [pna, pnb, pnc, pnd, pne]
      refine wpH_load 8 (.slice (some ⟨g, 0, none⟩) L.length cap) (oi := { dst := some 41, op := Op.load 105 (Operand.tmp 40), type := 105, pos := "oracle.go:31", after := #[{ on := 7, ground := Ground.data }], guard := none }) rfl (by kernel_rfl) (by kernel_rfl) (by kernel_rfl) (by rfl) hS (fun _ _ _ h => h) (fun w hb => (by have c := (B2.mod hb (by simp; omega)).cell 1; go_simp; try rfl)) ?_
      try simp only [pna, pnb, pnc, pnd, pne]
      (refine hP 9 ?_ ⟨some 42, .move (.tmp 9), 3, "", #[], none⟩ hS ?_ ?_; rotate_left; focus (intro w; go_simp; try with_reducible rfl))
      try simp only [pna, pnb, pnc, pnd, pne]
      (refine hP 10 ?_ ⟨some 43, .indexAddr 105 (.tmp 41) (.tmp 42), 0, "", #[], none⟩ hS ?_ ?_; rotate_left; focus (intro w; go_simp; try with_reducible rfl))
      try simp only [pna, pnb, pnc, pnd, pne]
      (refine hP 11 ?_ ⟨some 44, .fieldAddr 109 (.tmp 43) 2, 0, "", #[], none⟩ hS ?_ ?_; rotate_left; focus (intro w; go_simp; try with_reducible rfl))
      try simp only [pna, pnb, pnc, pnd, pne]
      refine wpH_op 12 (oi := { dst := some 45, op := Op.load 4 (Operand.tmp 44), type := 4, pos := "oracle.go:31", after := #[{ on := 11, ground := Ground.data }], guard := none }) rfl (by kernel_rfl) (by rfl) ?_
      refine wp_loads (.bool _) (by go_simp; try rfl) ?_
      refine ⟨hS, ?_⟩
      try simp only [pna, pnb, pnc, pnd, pne]
      (refine hP 13 ?_ ⟨some 46, .move (.tmp 45), 4, "", #[], none⟩ hS ?_ ?_; rotate_left; focus (intro w; go_simp; try with_reducible rfl))
      try simp only [pna, pnb, pnc, pnd, pne]
      (first | (refine hN 14 ⟨some 47, .move (.tmp 3), 4, "", #[], some (13, true)⟩ hS ?_) | (refine hP 14 ?_ ⟨some 47, .move (.tmp 3), 4, "", #[], some (13, true)⟩ hS ?_ ?_; rotate_left; focus (intro w; go_simp; try with_reducible rfl)))
      try simp only [pna, pnb, pnc, pnd, pne]
      (refine hP 15 ?_ ⟨some 48, .pick (.tmp 46) (.tmp 47) (.const (.bool false)), 4, "", #[], none⟩ hS ?_ ?_; rotate_left; focus (intro w; go_simp; try with_reducible rfl))
      try simp only [pna, pnb, pnc, pnd, pne]
      (refine hP 16 ?_ ⟨some 49, .indexAddr 105 (.tmp 36) (.tmp 37), 0, "", #[], none⟩ hS ?_ ?_; rotate_left; focus (intro w; go_simp; try with_reducible rfl))
      try simp only [pna, pnb, pnc, pnd, pne]
      (refine hP 17 ?_ ⟨some 50, .fieldAddr 109 (.tmp 49) 2, 0, "", #[], none⟩ hS ?_ ?_; rotate_left; focus (intro w; go_simp; try with_reducible rfl))
      try simp only [pna, pnb, pnc, pnd, pne]
      refine wpH_op 18 (oi := { dst := none, op := Op.store 4 (Operand.tmp 50) (Operand.tmp 48), type := 0, pos := "oracle.go:31", after := #[{ on := 17, ground := Ground.data }, { on := 15, ground := Ground.data }, { on := 13, ground := Ground.chain }, { on := 0, ground := Ground.phase }, { on := 1, ground := Ground.phase }, { on := 2, ground := Ground.phase }, { on := 3, ground := Ground.phase }, { on := 4, ground := Ground.phase }, { on := 5, ground := Ground.phase }, { on := 6, ground := Ground.phase }, { on := 7, ground := Ground.phase }, { on := 8, ground := Ground.phase }, { on := 9, ground := Ground.phase }, { on := 10, ground := Ground.phase }, { on := 11, ground := Ground.phase }, { on := 12, ground := Ground.phase }, { on := 13, ground := Ground.phase }, { on := 14, ground := Ground.phase }, { on := 15, ground := Ground.phase }], guard := none }) rfl (by kernel_rfl) (by rfl) ?_
      unfold Oper.wp; go_simp
      refine ⟨hS.setCell (.inl (by simp)) _, ?_⟩
      try simp only [pna, pnb, pnc, pnd, pne]
      refine wpAnyH_done (by kernel_rfl) ?_ _
      go_wp2_with fail
      go_ret
      refine ⟨rfl, ⟨b, .slice (some ⟨g, 0, none⟩) L.length cap, h1, h2, ?_, ?_, ?_, ?_⟩, ?_, F1.trans (.mod ((Mod.refl [g] wq).setCell (.inl (by simp)) _).drew (by simpa using FG))⟩
      ·exact B2.mod ((Mod.refl [g] _).setCell (.inl (by simp)) _).drew (by simp; omega)
      ·rw [HKS.out, List.length_set]
       exact ownsMap_mod hown2 ((Mod.refl [g] wq).setCell (.inl (by simp)) _).drew (by simp; omega)
      ·exact (hgr _).kept (fun k hk => rfl)
      ·intro x hx
       rcases List.mem_or_eq_of_mem_set hx with hx | rfl
       ·exact h6 x hx
       ·exact ⟨by simp; omega, HM.out⟩
      ·exact (hbq.setCell (p := ⟨g, i * 3 + 2, none⟩) (by simp; omega) _).drew
    ·have hin' : isIn L who mark = false := by simpa using hin
     by_cases hL : 1024 ≤ L.length
     ·rw [show signL L who mark honest = (L, 2) from by simp [signL, hw0, hw6, hm, hin, hL]]
      have hT0 := hT
      obtain ⟨b, sv, h1, h2, B, h4, h5, h6⟩ := hT
      have hlook : ∀ w', Below w.heap.size w w' → (Instr.lookup 104 (.map (some b)) (.agg #[.string ⟨List.toArray who⟩, .string ⟨List.toArray mark⟩, .bool false]) true).run Tryz.prog w' = .ok (.tuple #[.int .i64 ((idxOf (L.map keyOfS).reverse (who, mark) : Int)), .bool (isIn L who mark)]) w' := fun w' hb => Tab.look (base := base) (p := p) (ownsMap_keep h4 hb) h6 (by omega) (by omega)
      rw [hin'] at hlook
      generalize (idxOf (L.map keyOfS).reverse (who, mark) : Int) = n at *
      have e3 : ((mark.length : Int) != 32) = false := by simp; omega
      have HT := Lib.hid hT0
      clear hm hT0
      go_enter Tryz.func35, Tryz.ntmps35
      go_wp2_with fail
      refine wpH_start (by kernel_rfl) (fun hS => ?_)
      (refine hP 0 ?_ ⟨some 22, .move (.tmp 0), 43, "", #[], none⟩ hS ?_ ?_; rotate_left; focus (intro w; go_simp; try with_reducible rfl))
      try simp only [pna, pnb, pnc, pnd, pne]
      (refine hP 1 ?_ ⟨some 23, .nilCheck (.tmp 22), 0, "", #[], none⟩ hS ?_ ?_; rotate_left; focus (intro w; go_simp; try with_reducible rfl))
      try simp only [pna, pnb, pnc, pnd, pne]
      (refine hP 2 ?_ ⟨some 24, .fieldAddr 107 (.tmp 23) 0, 0, "", #[], none⟩ hS ?_ ?_; rotate_left; focus (intro w; go_simp; try with_reducible rfl))
      try simp only [pna, pnb, pnc, pnd, pne]
      refine wpH_load 3 (.map (some b)) (oi := { dst := some 25, op := Op.load 104 (Operand.tmp 24), type := 104, pos := "oracle.go:30", after := #[{ on := 2, ground := Ground.data }], guard := none }) rfl (by kernel_rfl) (by kernel_rfl) (by kernel_rfl) (by rfl) hS (fun _ _ _ h => h) (fun w hb => (by have c := (B.keep hb).cell 0; go_simp; try rfl)) ?_
      try simp only [pna, pnb, pnc, pnd, pne]
      (refine hP 4 ?_ ⟨some 26, .move (.tmp 1), 9, "", #[], none⟩ hS ?_ ?_; rotate_left; focus (intro w; go_simp; try with_reducible rfl))
      try simp only [pna, pnb, pnc, pnd, pne]
      (refine hP 5 ?_ ⟨some 27, .move (.tmp 2), 9, "", #[], none⟩ hS ?_ ?_; rotate_left; focus (intro w; go_simp; try with_reducible rfl))
      try simp only [pna, pnb, pnc, pnd, pne]
      refine wpH_call 6 (oi := { dst := some 28, op := Op.call { callee := Callee.value (Operand.func 43), args := #[Operand.tmp 26, Operand.tmp 27], argTypes := #[9, 9] }, type := 109, pos := "oracle.go:30", after := #[{ on := 4, ground := Ground.data }, { on := 5, ground := Ground.data }], guard := none }) rfl (by kernel_rfl) (by rfl) (okey_any who mark _) ?_ ?_
      ·(go_simp; try rfl)
      rintro e w' ⟨rfl, hbx⟩
      refine ⟨_, rfl, hS.trans (hbx.mono hS.size), ?_⟩
      replace hS := hS.trans (hbx.mono hS.size)
      try simp only [pna, pnb, pnc, pnd, pne]
      refine wpH_load 7 (.tuple #[.int .i64 n, .bool false]) (oi := { dst := some 29, op := Op.lookup 104 (Operand.tmp 25) (Operand.tmp 28) true, type := 103, pos := "oracle.go:30", after := #[{ on := 3, ground := Ground.data }, { on := 6, ground := Ground.data }], guard := none }) rfl (by kernel_rfl) (by kernel_rfl) (by kernel_rfl) (by rfl) hS (fun _ _ _ h => h) (fun w hb => (by have c := hlook w hb; go_simp; try exact c)) ?_
      try simp only [pna, pnb, pnc, pnd, pne]
      (refine hP 8 ?_ ⟨some 21, .move (.tmp 29), 103, "", #[], none⟩ hS ?_ ?_; rotate_left; focus (intro w; go_simp; try with_reducible rfl))
      try simp only [pna, pnb, pnc, pnd, pne]
      (refine hP 9 ?_ ⟨some 30, .extract (.tmp 21) 0, 3, "", #[], none⟩ hS ?_ ?_; rotate_left; focus (intro w; go_simp; try with_reducible rfl))
      try simp only [pna, pnb, pnc, pnd, pne]
      (refine hP 10 ?_ ⟨some 31, .extract (.tmp 21) 1, 4, "", #[], none⟩ hS ?_ ?_; rotate_left; focus (intro w; go_simp; try with_reducible rfl))
      try simp only [pna, pnb, pnc, pnd, pne]
      (refine hP 11 ?_ ⟨some 9, .assign (.tmp 30), 3, "", #[], none⟩ hS ?_ ?_; rotate_left; focus (intro w; go_simp; try with_reducible rfl))
      try simp only [pna, pnb, pnc, pnd, pne]
      (refine hP 12 ?_ ⟨some 10, .assign (.tmp 31), 4, "", #[], none⟩ hS ?_ ?_; rotate_left; focus (intro w; go_simp; try with_reducible rfl))
      try simp only [pna, pnb, pnc, pnd, pne]
      refine wpAnyH_done (by kernel_rfl) ?_ _
      have B2 := B.keep hS
      obtain ⟨b1, b2, b3⟩ := id B2
      obtain ⟨va, vc, rfl⟩ := h5.form
      have e4 : decide ((1024 : Int) ≤ (L.length : Int)) = true := by simp; omega
      have hbase : base ≤ w.heap.size := by have := B.lt; omega
      go_wp2_with fail
      go_ret
      exact ⟨rfl, HT.out.keep hS, hS.mono hbase, .below hS⟩
     ·rw [show signL L who mark honest = (L ++ [(who, mark, honest)], 0) from by simp [signL, hw0, hw6, hm, hin, hL]]
      exact osignf_new base p L who mark honest hw0 (by omega) hm (by omega) hin' w hT
   ·rw [show signL L who mark honest = (L, 3) from by simp [signL, hw0, hw6, hm]]
    have e3 : ((mark.length : Int) != 32) = true := by simp; omega
    go_enter Tryz.func35, Tryz.ntmps35
    go_wp2_with fail
    all_goals (go_ret; exact ⟨rfl, hT, Below.refl _ _, .refl _ _⟩)
end Go.Proofs.YthkpmlfaddlieaaGreatDoor
