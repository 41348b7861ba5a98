/- SignF, InvR, Typ. -/
import Derived.Test.YthkpmlfaddlieaaGreatDoorMs15
set_option linter.unnecessarySimpa false
set_option linter.unusedSimpArgs false
set_option linter.unusedVariables false
set_option maxRecDepth 100000
set_option maxHeartbeats 32000000
namespace Go.Proofs.YthkpmlfaddlieaaGreatDoor
open Go.RowKit Go.WideMaps Go.Maps Pl
def Foreign (w : World) (p k : Nat) : Prop := k ≠ p ∧ ∃ cs t f, w.heap[k]? = some (.cells cs t f) ∧ t ≠ 109
theorem Foreign.notMap {H : Type} {R : Value → Option (DataW H × List MemPlace)} {w : World} {t : TypeId} {b n p : Nat} {D : DataW H} (h : w.ownsMap Tryz.prog t R b n D) : ¬ Foreign w p b := by
 obtain ⟨es, clock, h1, h2⟩ := h
 rintro ⟨_, cs, t, f, h3, _⟩
 rw [h1] at h3; cases h3
theorem Foreign.notRow {w : World} {base p k : Nat} {v : Value} {L : List Sg} (h : GRow w base v L) (hk : v.ownBlock = some k) : ¬ Foreign w p k := by
 rcases h.2 with ⟨h1, _⟩ | ⟨g, cap, cur, hv, hb, hg, _⟩
 ·rw [h1] at hk; cases hk
 ·rw [hv] at hk; cases hk
  rintro ⟨_, cs, t, f, h3, h4⟩
  rw [hg] at h3
  injection h3 with h3
  injection h3 with _ h3 _
  exact h4 h3.symm
theorem Foreign.lt {w : World} {p k : Nat} (h : Foreign w p k) : k < w.heap.size := by
 obtain ⟨_, cs, t, f, h3, _⟩ := h
 rcases Nat.lt_or_ge k w.heap.size with hlt | hge
 ·exact hlt
 ·rw [Array.getElem?_eq_none hge] at h3; cases h3
structure OrF (p : Nat) (w w' : World) : Prop where
 os : w'.os = w.os
 tape : w'.tape = w.tape
 output : w'.output = w.output
 size : w.heap.size ≤ w'.heap.size
 block : ∀ k, Foreign w p k → w'.heap[k]? = w.heap[k]?
theorem OrF.refl (p : Nat) (w : World) : OrF p w w := ⟨rfl, rfl, rfl, Nat.le_refl _, fun _ _ => rfl⟩
theorem Foreign.keep {w w' : World} {p k : Nat} (h : Foreign w p k) (hb : w'.heap[k]? = w.heap[k]?) : Foreign w' p k := ⟨h.1, by rw [hb]; exact h.2⟩
theorem OrF.trans {p : Nat} {a b c : World} (h : OrF p a b) (k : OrF p b c) : OrF p a c :=
 ⟨k.os.trans h.os, k.tape.trans h.tape, k.output.trans h.output, Nat.le_trans h.size k.size, fun x hx => (k.block x (hx.keep (h.block x hx))).trans (h.block x hx)⟩
theorem OrF.below {p : Nat} {w w' : World} (h : Below w.heap.size w w') : OrF p w w' := ⟨h.os, h.tape, h.output, h.size, fun k hk => h.block k hk.lt⟩
theorem OrF.mod {p : Nat} {w w' : World} {l : List Nat} (h : Mod l w w') (hl : ∀ k ∈ l, ¬ Foreign w p k) : OrF p w w' := ⟨h.os, h.tape, h.output, h.size, fun k hk => h.block k hk.lt (fun hx => hl k hx hk)⟩
theorem OrF.grown {p : Nat} {w w' : World} {row : Option Nat} (h : w.grownBy w' row) (hl : ∀ k, row = some k → ¬ Foreign w p k) : OrF p w w' := by
 rcases row with _ | r
 ·exact .below (grown_below h (Nat.le_refl _) (fun k hk => by cases hk))
 ·exact .mod (grown_mod h) (fun k hk => by have e : k = r := (by simpa using hk); subst e; exact hl k rfl)
theorem Blk.orf {p : Nat} {w w' : World} {b : Nat} {cs : Array Value} (h : Blk w b cs) (hf : Foreign w p b) (m : OrF p w w') : Blk w' b cs := h.of_block (m.block b hf) m.size
section
variable {ops : Array Oper} {o : Oper} {rest : List Oper} {a : Act} {w : World} {Q : Exit → Act → World → Prop}
theorem wpList_appGF (hgd : o.guard = none) (s x : Operand)
  (ho : o.op = .call { callee := .builtin .append, args := #[s, x], argTypes := #[105, 105] })
  (base : Nat) (v : Value) (l : List Sg) (hs : a.eval s = v) (hown : GRow w base v l)
  (g off m c : Nat) (news : List Sg) (hx : a.eval x = .slice (some ⟨g, off, none⟩) m c) (hm : news.length = m) (hsrc : GSrc w g off news)
  (hlen : l.length + m ≤ 1099511627000) (hbase : base ≤ w.heap.size)
  (h : ∀ v' w', GRow w' base v' (l ++ news) → Below base w w' → w.grownBy w' v.ownBlock → wpList Tryz.prog ops Q rest (a.put o.dst v') w') : wpList Tryz.prog ops Q (o :: rest) a w := by
 refine wpList_plain hgd fun _ hK => ?_
 obtain ⟨i0, hi, hz0, hz1, hz2⟩ := info_parts infoG
 refine wp_append_own w s x 105 ho base 109 i0 (.agg #[.string ⟨#[]⟩, .string ⟨#[]⟩, .bool false]) 3 40 Tryz.underlying105 hi hz0 hz1 hz2 rfl (by decide) v l.length (gv l) hs hown ⟨g, off, none⟩ m c (gv news) hx (by rw [gv_len, hm]) (gsrc_news hsrc) (gone news)
  (by unfold maxLen; omega) (by omega) hbase (fun v' w' h2 h3 _ => hK _ _ (h v' w' ?_ (grown_below h3 hbase (fun k hk => (hown.own k hk).1)) h3))
 unfold GRow
 rw [List.length_append, hm, gv_app]
 exact h2
end
theorem osignf_new (base p : Nat) (L : List Sg) (who mark : Bs) (honest : Bool) (hw0 : who ≠ []) (hw : who.length ≤ 6) (hm : mark.length = 32) (hn : L.length < 1024) (hnew : isIn L who mark = false) (w : World) (hT : Tab w base p L) :
  Calls Tryz.prog 35 #[.pointer (some ⟨p, 0, none⟩), .string ⟨who.toArray⟩, .string ⟨mark.toArray⟩, .bool honest] w fun e w' => e = .returned (.int .i64 0) ∧ Tab w' base p (L ++ [(who, mark, honest)]) ∧ Below base w w' ∧ OrF p w w' := by
 obtain ⟨b, sv, h1, h2, B, h4, h5, h6⟩ := hT
 have hlook : ∀ w', Below w.heap.size w w' → (Instr.lookup 104 (.map (some b)) (.agg #[.string ⟨who.toArray⟩, .string ⟨mark.toArray⟩, .bool false]) true).run Tryz.prog w' = .ok (.tuple #[.int .i64 ((idxOf (L.map keyOfS).reverse (who, mark) : Int)), .bool (isIn L who mark)]) w' := fun w' hb => Tab.look (base := base) (p := p) (ownsMap_keep h4 hb) h6 (by omega) (by omega)
 rw [hnew] at hlook
 generalize (idxOf (L.map keyOfS).reverse (who, mark) : Int) = n at *
 have e1 : (who == []) = false := by simpa using hw0
 have e2 : decide ((6 : Int) < (who.length : Int)) = false := by simp; omega
 have e3 : ((mark.length : Int) != 32) = false := by simp; omega
 have HM := Lib.hid hm
 have hwf : (Lit.int .i64 (L.length : Int)).wf = true := by have h := wrap64_wf (L.length : Int); rw [← IntWalk.i64_left, IntWalk.i64_in _ (by omega)] at h; exact h
 clear hm
 go_enter Tryz.func35, Tryz.ntmps35
 go_wp2_with fail
 refine wpH_start (by kernel_rfl) (fun hS => ?_)
 (refine hP 0 ?_ ⟨some 22, .move (.tmp 0), 43, "", #[], none⟩ hS ?_ ?_; rotate_left; focus (intro w; go_simp; try with_reducible rfl))
 try simp only [pna, pnb, pnc, pnd, pne]
 (refine hP 1 ?_ ⟨some 23, .nilCheck (.tmp 22), 0, "", #[], none⟩ hS ?_ ?_; rotate_left; focus (intro w; go_simp; try with_reducible rfl))
 try simp only [pna, pnb, pnc, pnd, pne]
 (refine hP 2 ?_ ⟨some 24, .fieldAddr 107 (.tmp 23) 0, 0, "", #[], none⟩ hS ?_ ?_; rotate_left; focus (intro w; go_simp; try with_reducible rfl))
 try simp only [pna, pnb, pnc, pnd, pne]
 refine wpH_load 3 (.map (some b)) (oi := ⟨some 25,.load 104 (.tmp 24),104,"oracle.go:30",#[⟨2,.data⟩],none⟩) rfl (by kernel_rfl) (by kernel_rfl) (by kernel_rfl) (by rfl) hS (fun _ _ _ h => h) (fun w hb => (by have c := (B.keep hb).cell 0; go_simp; try rfl)) ?_
 try simp only [pna, pnb, pnc, pnd, pne]
 (refine hP 4 ?_ ⟨some 26, .move (.tmp 1), 9, "", #[], none⟩ hS ?_ ?_; rotate_left; focus (intro w; go_simp; try with_reducible rfl))
 try simp only [pna, pnb, pnc, pnd, pne]
 (refine hP 5 ?_ ⟨some 27, .move (.tmp 2), 9, "", #[], none⟩ hS ?_ ?_; rotate_left; focus (intro w; go_simp; try with_reducible rfl))
 try simp only [pna, pnb, pnc, pnd, pne]
 refine wpH_call 6 (oi := ⟨some 28,.call { callee := .value (.func 43), args := #[.tmp 26, .tmp 27], argTypes := #[9, 9] },109,"oracle.go:30",#[⟨4,.data⟩, ⟨5,.data⟩],none⟩) rfl (by kernel_rfl) (by rfl) (okey_any who mark _) ?_ ?_
 ·(go_simp; try rfl)
 rintro e w' ⟨rfl, hbx⟩
 refine ⟨_, rfl, hS.trans (hbx.mono hS.size), ?_⟩
 replace hS := hS.trans (hbx.mono hS.size)
 try simp only [pna, pnb, pnc, pnd, pne]
 refine wpH_load 7 (.tuple #[.int .i64 n, .bool false]) (oi := ⟨some 29,.lookup 104 (.tmp 25) (.tmp 28) true,103,"oracle.go:30",#[⟨3,.data⟩, ⟨6,.data⟩],none⟩) rfl (by kernel_rfl) (by kernel_rfl) (by kernel_rfl) (by rfl) hS (fun _ _ _ h => h) (fun w hb => (by have c := hlook w hb; go_simp; try exact c)) ?_
 try simp only [pna, pnb, pnc, pnd, pne]
 (refine hP 8 ?_ ⟨some 21, .move (.tmp 29), 103, "", #[], none⟩ hS ?_ ?_; rotate_left; focus (intro w; go_simp; try with_reducible rfl))
 try simp only [pna, pnb, pnc, pnd, pne]
 (refine hP 9 ?_ ⟨some 30, .extract (.tmp 21) 0, 3, "", #[], none⟩ hS ?_ ?_; rotate_left; focus (intro w; go_simp; try with_reducible rfl))
 try simp only [pna, pnb, pnc, pnd, pne]
 (refine hP 10 ?_ ⟨some 31, .extract (.tmp 21) 1, 4, "", #[], none⟩ hS ?_ ?_; rotate_left; focus (intro w; go_simp; try with_reducible rfl))
 try simp only [pna, pnb, pnc, pnd, pne]
 (refine hP 11 ?_ ⟨some 9, .assign (.tmp 30), 3, "", #[], none⟩ hS ?_ ?_; rotate_left; focus (intro w; go_simp; try with_reducible rfl))
 try simp only [pna, pnb, pnc, pnd, pne]
 (refine hP 12 ?_ ⟨some 10, .assign (.tmp 31), 4, "", #[], none⟩ hS ?_ ?_; rotate_left; focus (intro w; go_simp; try with_reducible rfl))
 try simp only [pna, pnb, pnc, pnd, pne]
 refine wpAnyH_done (by kernel_rfl) ?_ _
 have B2 := B.keep hS
 obtain ⟨b1, b2, b3⟩ := id B2
 have hown2 := ownsMap_keep h4 hS
 have hG2 := h5.keep hS
 obtain ⟨va, vc, rfl⟩ := h5.form
 have e4 : decide ((1024 : Int) ≤ (L.length : Int)) = false := by simp; omega
 go_wp2_with fail
 have hbase : base ≤ w.heap.size := by have := B.lt; omega
 have hbq := hS.mono hbase
 have hqs := hS.size
 obtain ⟨wq, hq⟩ := Below.nm hS
 subst hq
 have F1 : OrF p w wq := .below hS
 have FB : ¬ Foreign wq p b := Foreign.notMap hown2
 clear hS hlook h4 h5 B
 refine wpH_startM [b] (by kernel_rfl) (fun hS => ?_)
 (refine hP 0 ?_ ⟨some 57, .move (.tmp 0), 43, "", #[], none⟩ hS ?_ ?_; rotate_left; focus (intro w; go_simp; try with_reducible rfl))
 try simp only [pna, pnb, pnc, pnd, pne]
 (refine hP 1 ?_ ⟨some 58, .nilCheck (.tmp 57), 0, "", #[], none⟩ hS ?_ ?_; rotate_left; focus (intro w; go_simp; try with_reducible rfl))
 try simp only [pna, pnb, pnc, pnd, pne]
 (refine hP 2 ?_ ⟨some 59, .fieldAddr 107 (.tmp 58) 0, 0, "", #[], none⟩ hS ?_ ?_; rotate_left; focus (intro w; go_simp; try with_reducible rfl))
 try simp only [pna, pnb, pnc, pnd, pne]
 refine wpH_load 3 (.map (some b)) (oi := ⟨some 60,.load 104 (.tmp 59),104,"oracle.go:37",#[⟨2,.data⟩],none⟩) rfl (by kernel_rfl) (by kernel_rfl) (by kernel_rfl) (by rfl) hS (fun _ _ _ h => h) (fun w hb => (by have c := (B2.mod hb (by simp; omega)).cell 0; go_simp; try rfl)) ?_
 try simp only [pna, pnb, pnc, pnd, pne]
 (refine hP 4 ?_ ⟨some 61, .move (.tmp 1), 9, "", #[], none⟩ hS ?_ ?_; rotate_left; focus (intro w; go_simp; try with_reducible rfl))
 try simp only [pna, pnb, pnc, pnd, pne]
 (refine hP 5 ?_ ⟨some 62, .move (.tmp 2), 9, "", #[], none⟩ hS ?_ ?_; rotate_left; focus (intro w; go_simp; try with_reducible rfl))
 try simp only [pna, pnb, pnc, pnd, pne]
 (refine hP 7 ?_ ⟨some 64, .move (.tmp 0), 43, "", #[], none⟩ hS ?_ ?_; rotate_left; focus (intro w; go_simp; try with_reducible rfl))
 try simp only [pna, pnb, pnc, pnd, pne]
 (refine hP 8 ?_ ⟨some 65, .nilCheck (.tmp 64), 0, "", #[], none⟩ hS ?_ ?_; rotate_left; focus (intro w; go_simp; try with_reducible rfl))
 try simp only [pna, pnb, pnc, pnd, pne]
 (refine hP 9 ?_ ⟨some 66, .fieldAddr 107 (.tmp 65) 1, 0, "", #[], none⟩ hS ?_ ?_; rotate_left; focus (intro w; go_simp; try with_reducible rfl))
 try simp only [pna, pnb, pnc, pnd, pne]
 refine wpH_load 10 (.slice va L.length vc) (oi := ⟨some 67,.load 105 (.tmp 66),105,"oracle.go:37",#[⟨9,.data⟩],none⟩) rfl (by kernel_rfl) (by kernel_rfl) (by kernel_rfl) (by rfl) hS (fun _ _ _ h => h) (fun w hb => (by have c := (B2.mod hb (by simp; omega)).cell 1; go_simp; try rfl)) ?_
 try simp only [pna, pnb, pnc, pnd, pne]
 (refine hP 11 ?_ ⟨some 68, .call { callee := .builtin .len, args := #[.tmp 67], argTypes := #[105] }, 3, "", #[], none⟩ hS ?_ ?_; rotate_left; focus (intro w; go_simp; try with_reducible rfl))
 try simp only [pna, pnb, pnc, pnd, pne]
 refine wpH_call 6 (oi := ⟨some 63,.call { callee := .value (.func 43), args := #[.tmp 61, .tmp 62], argTypes := #[9, 9] },109,"oracle.go:37",#[⟨4,.data⟩, ⟨5,.data⟩],none⟩) rfl (by kernel_rfl) (by rfl) (okey_any who mark _) ?_ ?_
 ·(go_simp; try rfl)
 rintro e w' ⟨rfl, hbx⟩
 refine ⟨_, rfl, hS.trans (Mod.of_below hbx), ?_⟩
 replace hS := hS.trans (Mod.of_below hbx)
 try simp only [pna, pnb, pnc, pnd, pne]
 refine wpH_op 12 (oi := ⟨none,.mapUpdate 104 (.tmp 60) (.tmp 63) (.tmp 68),0,"oracle.go:37",#[⟨3,.data⟩, ⟨6,.data⟩, ⟨11,.data⟩, ⟨6,.chain⟩, ⟨0,.phase⟩, ⟨1,.phase⟩, ⟨2,.phase⟩, ⟨3,.phase⟩, ⟨4,.phase⟩, ⟨5,.phase⟩, ⟨6,.phase⟩, ⟨7,.phase⟩, ⟨8,.phase⟩, ⟨9,.phase⟩, ⟨10,.phase⟩, ⟨11,.phase⟩],none⟩) rfl (by kernel_rfl) (by rfl) ?_
 refine wp_mapUpd (.tmp 60) (.tmp 63) (.tmp 68) 104 rfl 109 3 keyedG Tryz.underlying104 (plainElem Tryz.prog 3) b L.length _ rfl (ownsMap_keep (World.ownsMap.drew hown2) hbx) (by unfold maxLen; omega) _ _ (kG who mark) rfl rfl (keyG who mark (by unfold maxLen; omega) (by unfold maxLen; have := HM.out; omega)) _ [] (plainElem_int Tryz.underlying3 hwf) ?_
 rintro w7 hown7 hg7
 have m7 : Mod [b] _ w7 := hS.trans (grown_mod hg7)
 refine ⟨m7, ?_⟩
 try simp only [pna, pnb, pnc, pnd, pne]
 refine wpAnyH_done (by kernel_rfl) ?_ _
 have F2 : OrF p w w7 := F1.trans (.mod m7 (by simpa using FB))
 have B7 := B2.mod m7 (by simp; omega)
 have hG7 := hG2.mod m7 (fun k hk => by have := (hG2.own k hk).1; simp; omega)
 have hb7 : Below base w w7 := Below.mod hbq m7 (by omega) (by simp; omega)
 have hs7 := m7.size
 have hlt7 := B7.lt
 clear b1 b2 b3 hG2 B2
 obtain ⟨b1, b2, b3⟩ := id B7
 go_wp2_with (first
  | (at_builtin; refine wpList_appGF rfl (.tmp 73) (.tmp 78) rfl (p + 1) _ L rfl (hG7.keep (Below.allocS (Below.refl _ _) _)) w7.heap.size 0 1 1 [(who, mark, honest)] rfl rfl (gsrc1 _ _ _ _ _) (by omega) (by simp; omega) ?_; rintro v8 w8 hG8 hb8 hg8; obtain ⟨va8, vc8, rfl⟩ := hG8.form; have B8 := (B7.alloc (.cells #[.string ⟨who.toArray⟩, .string ⟨mark.toArray⟩, .bool honest] 109)).of_block (hb8.block p (Nat.lt_succ_self _)) hb8.size; clear b1 b2 b3; obtain ⟨b1, b2, b3⟩ := id B8)
  | fail)
 go_ret
 have F3 : OrF p w w8 := (F2.trans (.below (Below.allocS (Below.refl _ _) (.cells #[.string ⟨who.toArray⟩, .string ⟨mark.toArray⟩, .bool honest] 109)))).trans (.grown hg8 (fun k hk => Foreign.notRow (hG7.keep (Below.allocS (Below.refl _ _) (.cells #[.string ⟨who.toArray⟩, .string ⟨mark.toArray⟩, .bool honest] 109))) hk))
 have hb9 : Below base w w8 := (Below.alloc hb7 (by omega) (.cells #[.string ⟨who.toArray⟩, .string ⟨mark.toArray⟩, .bool honest] 109)).trans (hb8.mono (by omega))
 have hown8 := ownsMap_at (hown7.alloc (.cells #[.string ⟨who.toArray⟩, .string ⟨mark.toArray⟩, .bool honest] 109)) (hb8.block b (by omega))
 rw [show (L ++ [(who, mark, honest)]).length = L.length + 1 from by simp] at hG8
 refine ⟨rfl, ⟨b, .slice va8 (L.length + 1) vc8, h1, h2, B8.set 1 _, ?_, hG8.mod ((Mod.refl [p] _).setCell (.inl (by simp)) _) (fun k hk => by have := (hG8.own k hk).1; simp; omega), ?_⟩, hb9.setCell (by simp; omega) _, F3.trans (.mod ((Mod.refl [p] _).setCell (.inl (by simp)) _) (by simp [Foreign]))⟩
 ·have h := hown8.setCell (a := ⟨p, 1, none⟩) (by simp; omega) (.slice va8 (L.length + 1) vc8)
  have hd : idxD ((L ++ [(who, mark, honest)]).map keyOfS).reverse = (idxD (L.map keyOfS).reverse).put (kG who mark) (.lit (.int .i64 (L.length : Int))) := by simp [idxD, keyOfS]
  rw [hd, List.length_append]
  exact h
 ·intro x hx
  rcases List.mem_append.1 hx with hx | hx
  ·exact h6 x hx
  ·simp at hx
   subst hx
   exact ⟨hw, HM.out⟩
theorem osignf_any (base p : Nat) (L : List Sg) (who mark : Bs) (honest : Bool) (hwl : who.length ≤ 9223372036854775807) (hml : mark.length ≤ 9223372036854775807) (w : World) (hT : Tab w base p L) :
  Calls Tryz.prog 35 #[.pointer (some ⟨p, 0, none⟩), .string ⟨who.toArray⟩, .string ⟨mark.toArray⟩, .bool honest] w fun e w' => e = .returned (.int .i64 ((signL L who mark honest).2)) ∧ Tab w' base p (signL L who mark honest).1 ∧ Below base w w' ∧ OrF p w w' := by
 by_cases hw0 : who = []
 ·rw [show signL L who mark honest = (L, 1) from by simp [signL, hw0]]
  subst hw0
  go_enter Tryz.func35, Tryz.ntmps35
  go_wp2_with fail
  all_goals (go_ret; exact ⟨rfl, hT, Below.refl _ _, .refl _ _⟩)
 ·have e1 : (who == []) = false := by simpa using hw0
  by_cases hw6 : 6 < who.length
  ·rw [show signL L who mark honest = (L, 1) from by simp [signL, hw6]]
   have e2 : decide ((6 : Int) < (who.length : Int)) = true := by simp; omega
   go_enter Tryz.func35, Tryz.ntmps35
   go_wp2_with fail
   all_goals (go_ret; exact ⟨rfl, hT, Below.refl _ _, .refl _ _⟩)
  ·have e2 : decide ((6 : Int) < (who.length : Int)) = false := by simp; omega
   by_cases hm : mark.length = 32
   ·by_cases hin : isIn L who mark = true
    ·obtain ⟨i1, i2, i3⟩ := placeG_get L who mark hin
     rw [show signL L who mark honest = (L.set (placeG L who mark) (who, mark, (L.getD (placeG L who mark) sg0').2.2 && honest), 0) from by simp [signL, hw0, hw6, hm, hin]]
     have hks := keys_set L who mark ((L.getD (placeG L who mark) sg0').2.2 && honest) hin
     obtain ⟨b, sv, h1, h2, B, h4, h5, h6⟩ := hT
     obtain ⟨g, cap, rfl, hg1, hg2, _, _, _⟩ := h5.set i1 true
     have hset : ∀ w' b', Below w.heap.size w w' → w'.cell? ⟨g, placeG L who mark * 3 + 2, none⟩ = some (.bool (L.getD (placeG L who mark) sg0').2.2) ∧ w'.frozen? ⟨g, placeG L who mark * 3 + 2, none⟩ = false ∧
       GRow (w'.setCell ⟨g, placeG L who mark * 3 + 2, none⟩ (.bool b')) (p + 1) (.slice (some ⟨g, 0, none⟩) L.length cap) (L.set (placeG L who mark) (who, mark, b')) := by
      intro w' b' hb
      have := (h5.keep hb).setA i1 b'
      rw [i2, i3] at this
      exact this
     have hlook : ∀ w', Below w.heap.size w w' → (Instr.lookup 104 (.map (some b)) (.agg #[.string ⟨who.toArray⟩, .string ⟨mark.toArray⟩, .bool false]) true).run Tryz.prog w' = .ok (.tuple #[.int .i64 ((placeG L who mark : Int)), .bool (isIn L who mark)]) w' := fun w' hb => Tab.look (base := base) (p := p) (ownsMap_keep h4 hb) h6 (by omega) (by omega)
     rw [hin] at hlook
     have HKS := Lib.hid hks
     generalize (L.getD (placeG L who mark) sg0').2.2 = old at *
     generalize placeG L who mark = i at *
     have e3 : ((mark.length : Int) != 32) = false := by simp; omega
     have HM := Lib.hid hm
     have HI := Lib.hid i2
     clear hm i2 i3 hks
     have hbase : base ≤ w.heap.size := by have := B.lt; omega
     go_enter Tryz.func35, Tryz.ntmps35
     go_wp2_with fail
     refine wpH_start (by kernel_rfl) (fun hS => ?_)
     (refine hP 0 ?_ ⟨some 22, .move (.tmp 0), 43, "", #[], none⟩ hS ?_ ?_; rotate_left; focus (intro w; go_simp; try with_reducible rfl))
     try simp only [pna, pnb, pnc, pnd, pne]
     (refine hP 1 ?_ ⟨some 23, .nilCheck (.tmp 22), 0, "", #[], none⟩ hS ?_ ?_; rotate_left; focus (intro w; go_simp; try with_reducible rfl))
     try simp only [pna, pnb, pnc, pnd, pne]
     (refine hP 2 ?_ ⟨some 24, .fieldAddr 107 (.tmp 23) 0, 0, "", #[], none⟩ hS ?_ ?_; rotate_left; focus (intro w; go_simp; try with_reducible rfl))
     try simp only [pna, pnb, pnc, pnd, pne]
     refine wpH_load 3 (.map (some b)) (oi := ⟨some 25,.load 104 (.tmp 24),104,"oracle.go:30",#[⟨2,.data⟩],none⟩) rfl (by kernel_rfl) (by kernel_rfl) (by kernel_rfl) (by rfl) hS (fun _ _ _ h => h) (fun w hb => (by have c := (B.keep hb).cell 0; go_simp; try rfl)) ?_
     try simp only [pna, pnb, pnc, pnd, pne]
     (refine hP 4 ?_ ⟨some 26, .move (.tmp 1), 9, "", #[], none⟩ hS ?_ ?_; rotate_left; focus (intro w; go_simp; try with_reducible rfl))
     try simp only [pna, pnb, pnc, pnd, pne]
     (refine hP 5 ?_ ⟨some 27, .move (.tmp 2), 9, "", #[], none⟩ hS ?_ ?_; rotate_left; focus (intro w; go_simp; try with_reducible rfl))
     try simp only [pna, pnb, pnc, pnd, pne]
     refine wpH_call 6 (oi := ⟨some 28,.call { callee := .value (.func 43), args := #[.tmp 26, .tmp 27], argTypes := #[9, 9] },109,"oracle.go:30",#[⟨4,.data⟩, ⟨5,.data⟩],none⟩) rfl (by kernel_rfl) (by rfl) (okey_any who mark _) ?_ ?_
     ·(go_simp; try rfl)
     rintro e w' ⟨rfl, hbx⟩
     refine ⟨_, rfl, hS.trans (hbx.mono hS.size), ?_⟩
     replace hS := hS.trans (hbx.mono hS.size)
     try simp only [pna, pnb, pnc, pnd, pne]
     refine wpH_load 7 (.tuple #[.int .i64 i, .bool true]) (oi := ⟨some 29,.lookup 104 (.tmp 25) (.tmp 28) true,103,"oracle.go:30",#[⟨3,.data⟩, ⟨6,.data⟩],none⟩) rfl (by kernel_rfl) (by kernel_rfl) (by kernel_rfl) (by rfl) hS (fun _ _ _ h => h) (fun w hb => (by have c := hlook w hb; go_simp; try exact c)) ?_
     try simp only [pna, pnb, pnc, pnd, pne]
     (refine hP 8 ?_ ⟨some 21, .move (.tmp 29), 103, "", #[], none⟩ hS ?_ ?_; rotate_left; focus (intro w; go_simp; try with_reducible rfl))
     try simp only [pna, pnb, pnc, pnd, pne]
     (refine hP 9 ?_ ⟨some 30, .extract (.tmp 21) 0, 3, "", #[], none⟩ hS ?_ ?_; rotate_left; focus (intro w; go_simp; try with_reducible rfl))
     try simp only [pna, pnb, pnc, pnd, pne]
     (refine hP 10 ?_ ⟨some 31, .extract (.tmp 21) 1, 4, "", #[], none⟩ hS ?_ ?_; rotate_left; focus (intro w; go_simp; try with_reducible rfl))
     try simp only [pna, pnb, pnc, pnd, pne]
     (refine hP 11 ?_ ⟨some 9, .assign (.tmp 30), 3, "", #[], none⟩ hS ?_ ?_; rotate_left; focus (intro w; go_simp; try with_reducible rfl))
     try simp only [pna, pnb, pnc, pnd, pne]
     (refine hP 12 ?_ ⟨some 10, .assign (.tmp 31), 4, "", #[], none⟩ hS ?_ ?_; rotate_left; focus (intro w; go_simp; try with_reducible rfl))
     try simp only [pna, pnb, pnc, pnd, pne]
     refine wpAnyH_done (by kernel_rfl) ?_ _
     have B2 := B.keep hS
     obtain ⟨hgc, hgf, _⟩ := hset _ true hS
     have hgr := fun b' => (hset _ b' hS).2.2
     have hown2 := ownsMap_keep h4 hS
     obtain ⟨b1, b2, b3⟩ := id B2
     have hbq := hS.mono hbase
     go_wp2_with fail
     have hbx1 : 0 ≤ (i : Int) ∧ (i : Int) < (L.length : Int) := by omega
     have hqs := hS.size
     obtain ⟨wq, hq⟩ := Below.nm hS
     subst hq
     have F1 : OrF p w wq := .below hS
     have FG : ¬ Foreign wq p g := Foreign.notRow (h5.keep hS) rfl
     clear hS hlook hset h4 h5 B
     have hgf2 : wq.drew.frozen? ⟨g, i * 3 + 2, none⟩ = false := hgf
     cases old
     all_goals
      refine wpH_startM [g] (by kernel_rfl) (fun hS => ?_)
      (refine hP 0 ?_ ⟨some 33, .move (.tmp 0), 43, "", #[], none⟩ hS ?_ ?_; rotate_left; focus (intro w; go_simp; try with_reducible rfl))
      try simp only [pna, pnb, pnc, pnd, pne]
      (refine hP 1 ?_ ⟨some 34, .nilCheck (.tmp 33), 0, "", #[], none⟩ hS ?_ ?_; rotate_left; focus (intro w; go_simp; try with_reducible rfl))
      try simp only [pna, pnb, pnc, pnd, pne]
      (refine hP 2 ?_ ⟨some 35, .fieldAddr 107 (.tmp 34) 1, 0, "", #[], none⟩ hS ?_ ?_; rotate_left; focus (intro w; go_simp; try with_reducible rfl))
      try simp only [pna, pnb, pnc, pnd, pne]
      refine wpH_load 3 (.slice (some ⟨g, 0, none⟩) L.length cap) (oi := ⟨some 36,.load 105 (.tmp 35),105,"oracle.go:31",#[⟨2,.data⟩],none⟩) rfl (by kernel_rfl) (by kernel_rfl) (by kernel_rfl) (by rfl) hS (fun _ _ _ h => h) (fun w hb => (by have c := (B2.mod hb (by simp; omega)).cell 1; go_simp; try rfl)) ?_
      try simp only [pna, pnb, pnc, pnd, pne]
      (refine hP 4 ?_ ⟨some 37, .move (.tmp 9), 3, "", #[], none⟩ hS ?_ ?_; rotate_left; focus (intro w; go_simp; try with_reducible rfl))
      try simp only [pna, pnb, pnc, pnd, pne]
      (refine hP 5 ?_ ⟨some 38, .move (.tmp 0), 43, "", #[], none⟩ hS ?_ ?_; rotate_left; focus (intro w; go_simp; try with_reducible rfl))
      try simp only [pna, pnb, pnc, pnd, pne]
      (refine hP 6 ?_ ⟨some 39, .nilCheck (.tmp 38), 0, "", #[], none⟩ hS ?_ ?_; rotate_left; focus (intro w; go_simp; try with_reducible rfl))
      try simp only [pna, pnb, pnc, pnd, pne]
      (refine hP 7 ?_ ⟨some 40, .fieldAddr 107 (.tmp 39) 1, 0, "", #[], none⟩ hS ?_ ?_; rotate_left; focus (intro w; go_simp; try with_reducible rfl))
      try simp only [pna, pnb, pnc, pnd, pne]
      refine wpH_load 8 (.slice (some ⟨g, 0, none⟩) L.length cap) (oi := ⟨some 41,.load 105 (.tmp 40),105,"oracle.go:31",#[⟨7,.data⟩],none⟩) rfl (by kernel_rfl) (by kernel_rfl) (by kernel_rfl) (by rfl) hS (fun _ _ _ h => h) (fun w hb => (by have c := (B2.mod hb (by simp; omega)).cell 1; go_simp; try rfl)) ?_
      try simp only [pna, pnb, pnc, pnd, pne]
      (refine hP 9 ?_ ⟨some 42, .move (.tmp 9), 3, "", #[], none⟩ hS ?_ ?_; rotate_left; focus (intro w; go_simp; try with_reducible rfl))
      try simp only [pna, pnb, pnc, pnd, pne]
      (refine hP 10 ?_ ⟨some 43, .indexAddr 105 (.tmp 41) (.tmp 42), 0, "", #[], none⟩ hS ?_ ?_; rotate_left; focus (intro w; go_simp; try with_reducible rfl))
      try simp only [pna, pnb, pnc, pnd, pne]
      (refine hP 11 ?_ ⟨some 44, .fieldAddr 109 (.tmp 43) 2, 0, "", #[], none⟩ hS ?_ ?_; rotate_left; focus (intro w; go_simp; try with_reducible rfl))
      try simp only [pna, pnb, pnc, pnd, pne]
      refine wpH_op 12 (oi := ⟨some 45,.load 4 (.tmp 44),4,"oracle.go:31",#[⟨11,.data⟩],none⟩) rfl (by kernel_rfl) (by rfl) ?_
      refine wp_loads (.bool _) (by go_simp; try rfl) ?_
      refine ⟨hS, ?_⟩
      try simp only [pna, pnb, pnc, pnd, pne]
      (refine hP 13 ?_ ⟨some 46, .move (.tmp 45), 4, "", #[], none⟩ hS ?_ ?_; rotate_left; focus (intro w; go_simp; try with_reducible rfl))
      try simp only [pna, pnb, pnc, pnd, pne]
      (first | (refine hN 14 ⟨some 47, .move (.tmp 3), 4, "", #[], some (13, true)⟩ hS ?_) | (refine hP 14 ?_ ⟨some 47, .move (.tmp 3), 4, "", #[], some (13, true)⟩ hS ?_ ?_; rotate_left; focus (intro w; go_simp; try with_reducible rfl)))
      try simp only [pna, pnb, pnc, pnd, pne]
      (refine hP 15 ?_ ⟨some 48, .pick (.tmp 46) (.tmp 47) (.const (.bool false)), 4, "", #[], none⟩ hS ?_ ?_; rotate_left; focus (intro w; go_simp; try with_reducible rfl))
      try simp only [pna, pnb, pnc, pnd, pne]
      (refine hP 16 ?_ ⟨some 49, .indexAddr 105 (.tmp 36) (.tmp 37), 0, "", #[], none⟩ hS ?_ ?_; rotate_left; focus (intro w; go_simp; try with_reducible rfl))
      try simp only [pna, pnb, pnc, pnd, pne]
      (refine hP 17 ?_ ⟨some 50, .fieldAddr 109 (.tmp 49) 2, 0, "", #[], none⟩ hS ?_ ?_; rotate_left; focus (intro w; go_simp; try with_reducible rfl))
      try simp only [pna, pnb, pnc, pnd, pne]
      refine wpH_op 18 (oi := ⟨none,.store 4 (.tmp 50) (.tmp 48),0,"oracle.go:31",#[⟨17,.data⟩, ⟨15,.data⟩, ⟨13,.chain⟩, ⟨0,.phase⟩, ⟨1,.phase⟩, ⟨2,.phase⟩, ⟨3,.phase⟩, ⟨4,.phase⟩, ⟨5,.phase⟩, ⟨6,.phase⟩, ⟨7,.phase⟩, ⟨8,.phase⟩, ⟨9,.phase⟩, ⟨10,.phase⟩, ⟨11,.phase⟩, ⟨12,.phase⟩, ⟨13,.phase⟩, ⟨14,.phase⟩, ⟨15,.phase⟩],none⟩) rfl (by kernel_rfl) (by rfl) ?_
      unfold Oper.wp; go_simp
      refine ⟨hS.setCell (.inl (by simp)) _, ?_⟩
      try simp only [pna, pnb, pnc, pnd, pne]
      refine wpAnyH_done (by kernel_rfl) ?_ _
      go_wp2_with fail
      go_ret
      refine ⟨rfl, ⟨b, .slice (some ⟨g, 0, none⟩) L.length cap, h1, h2, ?_, ?_, ?_, ?_⟩, ?_, F1.trans (.mod ((Mod.refl [g] wq).setCell (.inl (by simp)) _).drew (by simpa using FG))⟩
      ·exact B2.mod ((Mod.refl [g] _).setCell (.inl (by simp)) _).drew (by simp; omega)
      ·rw [HKS.out, List.length_set]
       exact ownsMap_mod hown2 ((Mod.refl [g] wq).setCell (.inl (by simp)) _).drew (by simp; omega)
      ·exact (hgr _).kept (fun k hk => rfl)
      ·intro x hx
       rcases List.mem_or_eq_of_mem_set hx with hx | rfl
       ·exact h6 x hx
       ·exact ⟨by simp; omega, HM.out⟩
      ·exact (hbq.setCell (p := ⟨g, i * 3 + 2, none⟩) (by simp; omega) _).drew
    ·have hin' : isIn L who mark = false := by simpa using hin
     by_cases hL : 1024 ≤ L.length
     ·rw [show signL L who mark honest = (L, 2) from by simp [signL, hw0, hw6, hm, hin, hL]]
      have hT0 := hT
      obtain ⟨b, sv, h1, h2, B, h4, h5, h6⟩ := hT
      have hlook : ∀ w', Below w.heap.size w w' → (Instr.lookup 104 (.map (some b)) (.agg #[.string ⟨who.toArray⟩, .string ⟨mark.toArray⟩, .bool false]) true).run Tryz.prog w' = .ok (.tuple #[.int .i64 ((idxOf (L.map keyOfS).reverse (who, mark) : Int)), .bool (isIn L who mark)]) w' := fun w' hb => Tab.look (base := base) (p := p) (ownsMap_keep h4 hb) h6 (by omega) (by omega)
      rw [hin'] at hlook
      generalize (idxOf (L.map keyOfS).reverse (who, mark) : Int) = n at *
      have e3 : ((mark.length : Int) != 32) = false := by simp; omega
      have HT := Lib.hid hT0
      clear hm hT0
      go_enter Tryz.func35, Tryz.ntmps35
      go_wp2_with fail
      refine wpH_start (by kernel_rfl) (fun hS => ?_)
      (refine hP 0 ?_ ⟨some 22, .move (.tmp 0), 43, "", #[], none⟩ hS ?_ ?_; rotate_left; focus (intro w; go_simp; try with_reducible rfl))
      try simp only [pna, pnb, pnc, pnd, pne]
      (refine hP 1 ?_ ⟨some 23, .nilCheck (.tmp 22), 0, "", #[], none⟩ hS ?_ ?_; rotate_left; focus (intro w; go_simp; try with_reducible rfl))
      try simp only [pna, pnb, pnc, pnd, pne]
      (refine hP 2 ?_ ⟨some 24, .fieldAddr 107 (.tmp 23) 0, 0, "", #[], none⟩ hS ?_ ?_; rotate_left; focus (intro w; go_simp; try with_reducible rfl))
      try simp only [pna, pnb, pnc, pnd, pne]
      refine wpH_load 3 (.map (some b)) (oi := ⟨some 25,.load 104 (.tmp 24),104,"oracle.go:30",#[⟨2,.data⟩],none⟩) rfl (by kernel_rfl) (by kernel_rfl) (by kernel_rfl) (by rfl) hS (fun _ _ _ h => h) (fun w hb => (by have c := (B.keep hb).cell 0; go_simp; try rfl)) ?_
      try simp only [pna, pnb, pnc, pnd, pne]
      (refine hP 4 ?_ ⟨some 26, .move (.tmp 1), 9, "", #[], none⟩ hS ?_ ?_; rotate_left; focus (intro w; go_simp; try with_reducible rfl))
      try simp only [pna, pnb, pnc, pnd, pne]
      (refine hP 5 ?_ ⟨some 27, .move (.tmp 2), 9, "", #[], none⟩ hS ?_ ?_; rotate_left; focus (intro w; go_simp; try with_reducible rfl))
      try simp only [pna, pnb, pnc, pnd, pne]
      refine wpH_call 6 (oi := ⟨some 28,.call { callee := .value (.func 43), args := #[.tmp 26, .tmp 27], argTypes := #[9, 9] },109,"oracle.go:30",#[⟨4,.data⟩, ⟨5,.data⟩],none⟩) rfl (by kernel_rfl) (by rfl) (okey_any who mark _) ?_ ?_
      ·(go_simp; try rfl)
      rintro e w' ⟨rfl, hbx⟩
      refine ⟨_, rfl, hS.trans (hbx.mono hS.size), ?_⟩
      replace hS := hS.trans (hbx.mono hS.size)
      try simp only [pna, pnb, pnc, pnd, pne]
      refine wpH_load 7 (.tuple #[.int .i64 n, .bool false]) (oi := ⟨some 29,.lookup 104 (.tmp 25) (.tmp 28) true,103,"oracle.go:30",#[⟨3,.data⟩, ⟨6,.data⟩],none⟩) rfl (by kernel_rfl) (by kernel_rfl) (by kernel_rfl) (by rfl) hS (fun _ _ _ h => h) (fun w hb => (by have c := hlook w hb; go_simp; try exact c)) ?_
      try simp only [pna, pnb, pnc, pnd, pne]
      (refine hP 8 ?_ ⟨some 21, .move (.tmp 29), 103, "", #[], none⟩ hS ?_ ?_; rotate_left; focus (intro w; go_simp; try with_reducible rfl))
      try simp only [pna, pnb, pnc, pnd, pne]
      (refine hP 9 ?_ ⟨some 30, .extract (.tmp 21) 0, 3, "", #[], none⟩ hS ?_ ?_; rotate_left; focus (intro w; go_simp; try with_reducible rfl))
      try simp only [pna, pnb, pnc, pnd, pne]
      (refine hP 10 ?_ ⟨some 31, .extract (.tmp 21) 1, 4, "", #[], none⟩ hS ?_ ?_; rotate_left; focus (intro w; go_simp; try with_reducible rfl))
      try simp only [pna, pnb, pnc, pnd, pne]
      (refine hP 11 ?_ ⟨some 9, .assign (.tmp 30), 3, "", #[], none⟩ hS ?_ ?_; rotate_left; focus (intro w; go_simp; try with_reducible rfl))
      try simp only [pna, pnb, pnc, pnd, pne]
      (refine hP 12 ?_ ⟨some 10, .assign (.tmp 31), 4, "", #[], none⟩ hS ?_ ?_; rotate_left; focus (intro w; go_simp; try with_reducible rfl))
      try simp only [pna, pnb, pnc, pnd, pne]
      refine wpAnyH_done (by kernel_rfl) ?_ _
      have B2 := B.keep hS
      obtain ⟨b1, b2, b3⟩ := id B2
      obtain ⟨va, vc, rfl⟩ := h5.form
      have e4 : decide ((1024 : Int) ≤ (L.length : Int)) = true := by simp; omega
      have hbase : base ≤ w.heap.size := by have := B.lt; omega
      go_wp2_with fail
      go_ret
      exact ⟨rfl, HT.out.keep hS, hS.mono hbase, .below hS⟩
     ·rw [show signL L who mark honest = (L ++ [(who, mark, honest)], 0) from by simp [signL, hw0, hw6, hm, hin, hL]]
      exact osignf_new base p L who mark honest hw0 (by omega) hm (by omega) hin' w hT
   ·rw [show signL L who mark honest = (L, 3) from by simp [signL, hw0, hw6, hm]]
    have e3 : ((mark.length : Int) != 32) = true := by simp; omega
    go_enter Tryz.func35, Tryz.ntmps35
    go_wp2_with fail
    all_goals (go_ret; exact ⟨rfl, hT, Below.refl _ _, .refl _ _⟩)
end Go.Proofs.YthkpmlfaddlieaaGreatDoor
namespace Go.Proofs.YthkpmlfaddlieaaGreatDoor
open Go.RowKit
theorem filter_le {α : Type} (p q : α → Bool) : ∀ (l : List α), (∀ x ∈ l, q x = true → p x = true) → (l.filter q).length ≤ (l.filter p).length
 | [], _ => Nat.le_refl _
 | x :: r, h => by
  have ih := filter_le p q r (fun y hy => h y (List.mem_cons_of_mem _ hy))
  have hx := h x (by simp)
  by_cases hq : q x = true
  ·rw [List.filter_cons, if_pos hq, List.filter_cons, if_pos (hx hq)]; simp; exact ih
  ·rw [List.filter_cons, if_neg hq, List.filter_cons]
   split <;> simp <;> omega
theorem filter_lt {α : Type} (p q : α → Bool) : ∀ (l : List α), (∀ x ∈ l, q x = true → p x = true) → ∀ i ∈ l, p i = true → q i = false → (l.filter q).length < (l.filter p).length
 | [], _, i, hi, _, _ => by cases hi
 | x :: r, h, i, hi, hp, hq => by
  have hle := filter_le p q r (fun y hy => h y (List.mem_cons_of_mem _ hy))
  rcases List.mem_cons.1 hi with e | hi
  ·subst e
   rw [List.filter_cons, if_neg (by rw [hq]; decide), List.filter_cons, if_pos hp]; simp; omega
  ·have ih := filter_lt p q r (fun y hy => h y (List.mem_cons_of_mem _ hy)) i hi hp hq
   have hx := h x (by simp)
   by_cases hqx : q x = true
   ·rw [List.filter_cons, if_pos hqx, List.filter_cons, if_pos (hx hqx)]; simp; exact ih
   ·rw [List.filter_cons, if_neg hqx, List.filter_cons]
    split <;> simp <;> omega
def leftN (ops : Array Oper) (listed : Array Bool) : Nat := ((List.range ops.size).filter fun i => !listed.getD i true).length
theorem ready_size {ops : Array Oper} {listed : Array Bool} {i : Nat} (h : i ∈ Region.ready .any ops listed) : i < ops.size := by
 obtain ⟨_, o, ho, _⟩ := mem_ready.1 h
 exact (Array.getElem?_eq_some_iff.1 ho).1
theorem left_step {ops : Array Oper} {listed : Array Bool} {i : Nat} (h : i ∈ Region.ready .any ops listed) : leftN ops (listed.setIfInBounds i true) < leftN ops listed := by
 have hun := (mem_ready.1 h).1
 refine filter_lt _ _ _ (fun x _ hx => ?_) i (List.mem_range.2 (ready_size h)) (by simp only [hun]; rfl) ?_
 ·by_cases e : i = x
  ·subst e; simp only [hun]; rfl
  ·simpa only [getD_set_ne true e] using hx
 ·have : (listed.setIfInBounds i true).getD i true = true := by
   have hsz : (listed.setIfInBounds i true).getD i true = true := by
    by_cases hlt : i < listed.size
    ·simp [hlt]
    ·simp [hlt]
   exact hsz
  simp only [this]; rfl
section
variable {P : Program} {ops : Array Oper} {Q : Exit → Act → World → Prop}
theorem wpAny_inv (I : Array Bool → Act → World → Prop)
  (step : ∀ listed a w i, I listed a w → i ∈ Region.ready .any ops listed → wpOp P ops Q i (fun a' w' => I (listed.setIfInBounds i true) a' w') a w)
  (fin : ∀ listed a w, I listed a w → Region.ready .any ops listed = [] → Q .normal a w) :
  ∀ (fuel : Nat) (listed : Array Bool) (a : Act) (w : World), leftN ops listed ≤ fuel → I listed a w → wpAny P .any ops Q fuel listed a w
 | 0, listed, a, w, hl, hI => by
  have hr : Region.ready .any ops listed = [] := by
   rw [List.eq_nil_iff_forall_not_mem]
   intro i hi
   have hun := (mem_ready.1 hi).1
   have : i ∈ (List.range ops.size).filter fun i => !listed.getD i true := List.mem_filter.2 ⟨List.mem_range.2 (ready_size hi), by simp only [hun]; rfl⟩
   have h0 : ((List.range ops.size).filter fun i => !listed.getD i true).length = 0 := by unfold leftN at hl; omega
   rw [List.length_eq_zero_iff.1 h0] at this
   cases this
  exact ⟨hr, fin listed a w hI hr⟩
 | fuel + 1, listed, a, w, hl, hI => ⟨fun hr => fin listed a w hI hr, fun i hi => wpOp_mono (fun a' w' h => wpAny_inv I step fin fuel _ a' w' (by have := left_step hi; omega) h) (step listed a w i hI hi)⟩
def vOf (o : Oper) (a : Act) : Value := match o.dst with
 | some d => a.tmps.getD d undef
 | none => undef
structure InvR (ops : Array Oper) (last : Nat) (S : World → Prop) (V : Nat → World → Value → Prop) (a0 : Act) (listed : Array Bool) (a : Act) (w : World) : Prop where
 s : S w
 v : ∀ (i : Nat) (o : Oper), ops[i]? = some o → listed.getD i false = true → V i w (vOf o a)
 keep : ∀ t, (∀ (i : Nat) (o : Oper), i < last → ops[i]? = some o → o.dst ≠ some t) → a.tmps[t]? = a0.tmps[t]?
 defers : a.defers = a0.defers
 size : a.tmps.size = a0.tmps.size
 nl : listed.getD last false = false
 lsz : listed.size = ops.size
 cl : ∀ (i : Nat) (o : Oper), ops[i]? = some o → listed.getD i false = true → ∀ e ∈ o.after, Region.binds .any e = true → listed.getD e.on false = true
def putAll (ops : Array Oper) (vals : Nat → Value) : Nat → Act → Act
 | 0, a => a
 | n + 1, a => (putAll ops vals n a).put ((ops[n]?).bind (·.dst)) (vals n)
theorem putAll_size (ops : Array Oper) (vals : Nat → Value) (a : Act) : ∀ n, (putAll ops vals n a).tmps.size = a.tmps.size ∧ (putAll ops vals n a).defers = a.defers
 | 0 => ⟨rfl, rfl⟩
 | n + 1 => by
  have ih := putAll_size ops vals a n
  unfold putAll Act.put
  split
  ·exact ⟨by simp [ih.1], ih.2⟩
  ·exact ih
theorem putAll_out (ops : Array Oper) (vals : Nat → Value) (a : Act) (t : Nat) : ∀ n, (∀ (i : Nat) (o : Oper), i < n → ops[i]? = some o → o.dst ≠ some t) → (putAll ops vals n a).tmps[t]? = a.tmps[t]?
 | 0, _ => rfl
 | n + 1, h => by
  have ih := putAll_out ops vals a t n (fun i o hi => h i o (by omega))
  unfold putAll
  rcases ho : ops[n]? with _ | o
  ·exact ih
  ·have := h n o (by omega) ho
   rcases hd : o.dst with _ | d
   ·simp only [Option.bind_some, hd, Act.put]; exact ih
   ·have hne : d ≠ t := fun e => this (by rw [hd, e])
    simp only [Option.bind_some, hd, Act.put]
    rw [Array.getElem?_setIfInBounds_ne hne]
    exact ih
theorem putAll_in (ops : Array Oper) (vals : Nat → Value) (a : Act) (hu : ∀ (i j : Nat) (oi oj : Oper) (d : Nat), ops[i]? = some oi → ops[j]? = some oj → oi.dst = some d → oj.dst = some d → i = j)
  (i : Nat) (o : Oper) (d : Nat) (ho : ops[i]? = some o) (hd : o.dst = some d) (hs : d < a.tmps.size) : ∀ n, i < n → (putAll ops vals n a).tmps[d]? = some (vals i)
 | 0, h => absurd h (Nat.not_lt_zero _)
 | n + 1, h => by
  unfold putAll
  by_cases e : i = n
  ·subst e
   simp only [ho, Option.bind_some, hd, Act.put]
   rw [Array.getElem?_setIfInBounds, if_pos rfl, if_pos (by rw [(putAll_size ops vals a i).1]; exact hs)]
  ·have ih := putAll_in ops vals a hu i o d ho hd hs n (by omega)
   rcases ho2 : ops[n]? with _ | o2
   ·exact ih
   ·rcases hd2 : o2.dst with _ | d2
    ·simp only [Option.bind_some, hd2, Act.put]; exact ih
    ·have hne : d2 ≠ d := fun e2 => e (hu i n o o2 d ho ho2 hd (by rw [hd2, e2]))
     simp only [Option.bind_some, hd2, Act.put]
     rw [Array.getElem?_setIfInBounds_ne hne]
     exact ih
theorem act_ext {a b : Act} (h1 : a.tmps = b.tmps) (h2 : a.defers = b.defers) : a = b := by
 cases a; cases b; simp only at h1 h2; subst h1 h2; rfl
theorem wp_region_inv {id : Nat} {a0 : Act} {w0 : World} (hm : P.follows .mixedOrders = true) (last : Nat) (ol : Oper) (hl : ops[last]? = some ol) (hls : ops.size = last + 1) (hgl : ol.guard = none)
  (hu : ∀ (i j : Nat) (oi oj : Oper) (d : Nat), ops[i]? = some oi → ops[j]? = some oj → oi.dst = some d → oj.dst = some d → i = j)
  (hd : ∀ (i : Nat) (o : Oper), i < last → ops[i]? = some o → o.guard = none ∧ ∃ d, o.dst = some d ∧ d < a0.tmps.size)
  (hsucc : ∀ i, i < last → ∃ (j : Nat) (oj : Oper), i < j ∧ j ≤ last ∧ ops[j]? = some oj ∧ ∃ e ∈ oj.after, Region.binds .any e = true ∧ e.on = i)
  (hback : ∀ (i : Nat) (o : Oper), ops[i]? = some o → ∀ e ∈ o.after, Region.binds .any e = true → e.on < i)
  (S : World → Prop) (V : Nat → World → Value → Prop) (R : World → World → Prop) (hmono : ∀ i w w' v, V i w v → R w w' → V i w' v) (hS : S w0.drew)
  (step : ∀ (i : Nat) (o : Oper) (a : Act) (w : World), i < last → ops[i]? = some o → S w → (∀ e ∈ o.after, Region.binds .any e = true → ∀ (oj : Oper), ops[e.on]? = some oj → V e.on w (vOf oj a)) → (∀ (t : Nat), (∀ (i : Nat) (o : Oper), ops[i]? = some o → o.dst ≠ some t) → a.tmps.getD t undef = a0.tmps.getD t undef) →
   o.wp P a w (fun a' w' => ∃ u, a' = a.put o.dst u ∧ S w' ∧ R w w' ∧ V i w' u) Q)
  (fin : ∀ (vals : Nat → Value) (w : World), S w → (∀ i, i < last → V i w (vals i)) → ol.wp P (putAll ops vals last a0) w (fun a' w' => Q .normal a' w') Q) :
  (Code.region id ops true).wp P Q a0 w0 := by
 refine wp_region_any hm (wpAny_inv (fun listed a w => (listed.getD last false = true ∧ Q .normal a w ∧ ∀ i, i < ops.size → listed.getD i true = true) ∨ InvR ops last S V a0 listed a w) ?_ ?_ ops.size _ a0 w0.drew ?_ (.inr ?_))
 ·rintro listed a w i (⟨_, _, hall⟩ | hI) hr
  ·have h1 := (mem_ready.1 hr).1
   rw [hall i (ready_size hr)] at h1; cases h1
  ·obtain ⟨hun, o, ho, hdeps⟩ := mem_ready.1 hr
   have his := ready_size hr
   have hl2 : i < listed.size := by rw [hI.lsz]; exact his
   unfold wpOp
   simp only [ho]
   by_cases hil : i = last
   ·subst hil
    rw [hl] at ho
    injection ho with ho
    subst ho
    have hothers : ∀ n k, k + n = i → k < i → listed.getD k false = true := by
     intro n
     induction n using Nat.strongRecOn with
     | ind n ih =>
      intro k hk hki
      obtain ⟨j, oj, h1, h2, h3, e, he, hb, heo⟩ := hsucc k hki
      subst heo
      by_cases hj : j = i
      ·subst hj
       rw [hl] at h3
       injection h3 with h3
       subst h3
       exact hdeps e he hb
      ·exact hI.cl j oj h3 (ih (i - j) (by omega) j (by omega) (by omega)) e he hb
    have hwant : Region.wanted ol (yielded ops a.tmps) = true := by simp [Region.wanted, hgl]
    rw [if_pos hwant]
    refine .inl ?_
    have hae : a = putAll ops (fun k => match ops[k]? with | some o => vOf o a | none => undef) i a0 := by
     have hps := putAll_size ops (fun k => match ops[k]? with | some o => vOf o a | none => undef) a0 i
     refine act_ext (Array.ext_getElem? fun t => ?_) (hI.defers.trans hps.2.symm)
     by_cases hex : ∃ k o, k < i ∧ ops[k]? = some o ∧ o.dst = some t
     ·obtain ⟨k, ok, hk, hok, hdk⟩ := hex
      have hts : t < a0.tmps.size := by
       obtain ⟨_, d, h1, h2⟩ := hd k ok hk hok
       rw [hdk] at h1; injection h1 with h1; subst h1; exact h2
      rw [putAll_in ops _ a0 hu k ok t hok hdk hts i hk]
      simp only [hok, vOf, hdk]
      have : t < a.tmps.size := by rw [hI.size]; exact hts
      rw [Array.getElem?_eq_getElem this, Array.getD_eq_getD_getElem?, Array.getElem?_eq_getElem this]
      rfl
     ·rw [putAll_out ops _ a0 t i (fun k o hk ho hdk => hex ⟨k, o, hk, ho, hdk⟩)]
      exact hI.keep t (fun k o hk hok hdk => hex ⟨k, o, hk, hok, hdk⟩)
    have hf := fin (fun k => match ops[k]? with | some o => vOf o a | none => undef) w hI.s (fun k hk => by
     obtain ⟨o, ho⟩ : ∃ o, ops[k]? = some o := ⟨ops[k]'(by omega), Array.getElem?_eq_getElem (by omega)⟩
     have := hI.v k o ho (hothers (i - k) k (by omega) hk)
     simpa only [ho] using this)
    rw [← hae] at hf
    refine Oper.wp_mono (fun a' w' hq => .inl ⟨?_, hq, fun k hk => ?_⟩) hf
    ·simp [hl2]
    ·by_cases hki : k = i
     ·subst hki; simp [hl2]
     ·have h1 := hothers (i - k) k (by omega) (by omega)
      rw [getD_set_ne true (Ne.symm hki)]
      have h2 : k < listed.size := by rw [hI.lsz]; exact hk
      rw [Array.getD_eq_getD_getElem?, Array.getElem?_eq_getElem h2] at h1 ⊢
      exact h1
   ·have hil2 : i < last := by omega
    obtain ⟨hgi, d, hdi, hds⟩ := hd i o hil2 ho
    have hwant : Region.wanted o (yielded ops a.tmps) = true := by simp [Region.wanted, hgi]
    rw [if_pos hwant]
    refine .inl ?_
    have hs := step i o a w hil2 ho hI.s (fun e he hb oj hoj => hI.v e.on oj hoj (hdeps e he hb)) (fun t ht => by
     rw [Array.getD_eq_getD_getElem?, Array.getD_eq_getD_getElem?, hI.keep t (fun k o _ h => ht k o h)])
    refine Oper.wp_mono (fun a' w' h => .inr ?_) hs
    obtain ⟨u, rfl, h1, h2, h3⟩ := h
    have hds2 : d < a.tmps.size := by rw [hI.size]; exact hds
    refine ⟨h1, fun k ok hok hk => ?_, fun t ht => ?_, ?_, ?_, ?_, ?_, fun k ok hok hk e he hb => ?_⟩
    ·by_cases hki : k = i
     ·subst hki
      rw [ho] at hok
      injection hok with hok
      subst hok
      have : vOf o (a.put o.dst u) = u := by
       unfold vOf
       rw [hdi]
       simp only [Act.put]
       simp [hds2]
      rw [this]; exact h3
     ·rw [getD_set_ne false (Ne.symm hki)] at hk
      have hv := hmono k w w' _ (hI.v k ok hok hk) h2
      have : vOf ok (a.put o.dst u) = vOf ok a := by
       unfold vOf
       rcases hdk : ok.dst with _ | d2
       ·rfl
       ·have hne : d ≠ d2 := fun e => hki (hu k i ok o d hok ho (by rw [hdk, e]) hdi)
        simp only [hdi, Act.put]
        rw [Array.getD_eq_getD_getElem?, Array.getElem?_setIfInBounds_ne hne, ← Array.getD_eq_getD_getElem?]
      rw [this]; exact hv
    ·have hne : d ≠ t := fun e => ht i o hil2 ho (by rw [hdi, e])
     simp only [hdi, Act.put]
     rw [Array.getElem?_setIfInBounds_ne hne]
     exact hI.keep t ht
    ·simp only [hdi, Act.put]; exact hI.defers
    ·simp only [hdi, Act.put, Array.size_setIfInBounds]; exact hI.size
    ·rw [getD_set_ne false (by omega)]; exact hI.nl
    ·rw [Array.size_setIfInBounds]; exact hI.lsz
    ·refine getD_set_true ?_
     by_cases hki : k = i
     ·subst hki
      rw [ho] at hok
      injection hok with hok
      subst hok
      exact hdeps e he hb
     ·rw [getD_set_ne false (Ne.symm hki)] at hk
      exact hI.cl k ok hok hk e he hb
 ·rintro listed a w (⟨_, hq, _⟩ | hI) hr
  ·exact hq
  ·exfalso
   have hall : ∀ n, n ≤ last → listed.getD n false = true := by
    intro n
    induction n using Nat.strongRecOn with
    | ind n ih =>
     intro hn
     obtain ⟨o, ho⟩ : ∃ o, ops[n]? = some o := ⟨ops[n]'(by omega), Array.getElem?_eq_getElem (by omega)⟩
     cases hc : listed.getD n false
     ·exfalso
      have hm : n ∈ Region.ready .any ops listed := mem_ready.2 ⟨by
       have h2 : n < listed.size := by rw [hI.lsz]; omega
       rw [Array.getD_eq_getD_getElem?, Array.getElem?_eq_getElem h2] at hc ⊢
       exact hc, o, ho, fun e he hb => ih e.on (hback n o ho e he hb) (by have := hback n o ho e he hb; omega)⟩
      rw [hr] at hm; cases hm
     ·rfl
   have := hall last (Nat.le_refl _)
   rw [hI.nl] at this; cases this
 ·have : leftN ops (Array.replicate ops.size false) ≤ ops.size := by
   unfold leftN
   refine Nat.le_trans (List.length_filter_le _ _) ?_
   rw [List.length_range]; exact Nat.le_refl _
  exact this
 ·refine ⟨hS, fun k ok hok hk => ?_, fun t _ => rfl, rfl, rfl, ?_, by simp, fun k ok hok hk => ?_⟩
  ·exfalso
   rw [Array.getD_eq_getD_getElem?, Array.getElem?_replicate] at hk
   split at hk <;> simp at hk
  ·rw [Array.getD_eq_getD_getElem?, Array.getElem?_replicate]
   split <;> rfl
  ·exfalso
   rw [Array.getD_eq_getD_getElem?, Array.getElem?_replicate] at hk
   split at hk <;> simp at hk
def okReg (ops : Array Oper) (last n0 : Nat) : Bool :=
 decide (ops.size = last + 1) &&
 ((List.range ops.size).all fun i => (List.range ops.size).all fun j => decide (i = j) || (match (ops[i]?).bind (·.dst), (ops[j]?).bind (·.dst) with | some d, some e => !decide (d = e) | _, _ => true)) &&
 ((List.range last).all fun i => match ops[i]? with | some o => o.guard.isNone && (match o.dst with | some d => decide (d < n0) | none => false) | none => false) &&
 ((List.range last).all fun i => (List.range (last + 1)).any fun j => decide (i < j) && (match ops[j]? with | some oj => oj.after.any (fun e => Region.binds .any e && decide (e.on = i)) | none => false)) &&
 ((List.range ops.size).all fun i => match ops[i]? with | some o => o.after.all (fun e => !Region.binds .any e || decide (e.on < i)) | none => true) &&
 (match ops[last]? with | some ol => ol.guard.isNone | none => false)
def depsOf (o : Oper) : List Nat := o.after.toList.filterMap fun e => if Region.binds .any e then some e.on else none
def dstsOf (ops : Array Oper) : List Nat := ops.toList.filterMap (·.dst)
def valAt (ops : Array Oper) (k : Nat) (a : Act) : Value := match ops[k]? with
 | some o => vOf o a
 | none => undef
structure Pm where
 p : World → Value → Prop
 mono : ∀ w w' v, p w v → Below w.heap.size w w' → p w' v
def Pm.eq (u : Value) : Pm := ⟨fun _ v => v = u, fun _ _ _ h _ => h⟩
def Pm.tt : Pm := ⟨fun _ _ => True, fun _ _ _ h _ => h⟩
def pAt (vL : List Pm) (i : Nat) : World → Value → Prop := (vL.getD i Pm.tt).p
def putD (vals : Nat → Value) : Nat → List Nat → Act → Act
 | _, [], a => a
 | k, d :: r, a => putD vals (k + 1) r (a.put (some d) (vals k))
theorem putD_snoc (vals : Nat → Value) (d : Nat) : ∀ (l : List Nat) (k : Nat) (a : Act), putD vals k (l ++ [d]) a = (putD vals k l a).put (some d) (vals (k + l.length))
 | [], k, a => rfl
 | x :: r, k, a => by
  rw [List.cons_append, putD, putD, putD_snoc vals d r (k + 1), List.length_cons]
  rw [show k + 1 + r.length = k + (r.length + 1) from by omega]
theorem putAll_putD (ops : Array Oper) (vals : Nat → Value) (a : Act) : ∀ (n : Nat) (dl : List Nat), (List.range n).map (fun i => (ops[i]?).bind (·.dst)) = dl.map some → putAll ops vals n a = putD vals 0 dl a
 | 0, dl, h => by
  have : dl = [] := by simpa using h.symm
  subst this
  rfl
 | n + 1, dl, h => by
  rw [List.range_succ, List.map_append] at h
  rcases List.eq_nil_or_concat dl with e | ⟨r, d, e⟩
  ·subst e; simp at h
  ·subst e
   rw [List.concat_eq_append, List.map_append] at h
   have h2 := List.append_inj' h rfl
   have ih := putAll_putD ops vals a n r h2.1
   have hl : r.length = n := by have := congrArg List.length h2.1; simpa using this.symm
   have hd : (ops[n]?).bind (·.dst) = some d := by simpa using h2.2
   rw [List.concat_eq_append, putD_snoc, ← ih, Nat.zero_add, hl]
   show (putAll ops vals n a).put ((ops[n]?).bind (·.dst)) (vals n) = _
   rw [hd]
def StepAt (P : Program) (ops : Array Oper) (Q : Exit → Act → World → Prop) (W : World) (vL : List Pm) (a0 : Act) (i : Nat) : Prop :=
 ∀ o, ops[i]? = some o → ∀ (a : Act) (w : World), Below W.heap.size W w → (∀ k, (depsOf o).contains k = true → pAt vL k w (valAt ops k a)) →
  (∀ t, (dstsOf ops).contains t = false → a.eval (.tmp t) = a0.eval (.tmp t)) →
  o.wp P a w (fun a' w' => ∃ u, a' = a.put o.dst u ∧ Below w.heap.size w w' ∧ pAt vL i w' u) Q
theorem wp_region_inv2 {id : Nat} {a0 : Act} {w0 : World} (hm : P.follows .mixedOrders = true) (last : Nat) (ol : Oper) (hl : ops[last]? = some ol) (hok : okReg ops last a0.tmps.size = true) (dl : List Nat) (hdl : (List.range last).map (fun i => (ops[i]?).bind (·.dst)) = dl.map some)
  (vL : List Pm) (step : ∀ i, i < last → StepAt P ops Q w0 vL a0 i)
  (fin : ∀ (vals : Nat → Value) (w : World), Below w0.heap.size w0 w → (∀ i, i < last → pAt vL i w (vals i)) → ol.wp P (putD vals 0 dl a0) w (fun a' w' => Q .normal a' w') Q) :
  (Code.region id ops true).wp P Q a0 w0 := by
 unfold okReg at hok
 simp only [Bool.and_eq_true, decide_eq_true_eq, List.all_eq_true, List.mem_range] at hok
 obtain ⟨⟨⟨⟨⟨k1, k2⟩, k3⟩, k4⟩, k5⟩, k6⟩ := hok
 rw [hl] at k6
 simp only [Option.isNone_iff_eq_none] at k6
 refine wp_region_inv hm last ol hl k1 k6 (fun i j oi oj d hi hj h1 h2 => ?_) (fun i o hi ho => ?_) (fun i hi => ?_) (fun i o ho e he hb => ?_) (Below w0.heap.size w0) (pAt vL) (fun w w' => Below w.heap.size w w')
  (fun i w w' v hv hb => (vL.getD i Pm.tt).mono w w' v hv hb) (Below.refl _ _).drew (fun i o a w hi ho hS hdep hout => ?_) (fun vals w h1 h2 => by rw [putAll_putD ops vals a0 last dl hdl]; exact fin vals w h1 h2)
 ·have his := (Array.getElem?_eq_some_iff.1 hi).1
  have hjs := (Array.getElem?_eq_some_iff.1 hj).1
  have := k2 i his j hjs
  simp only [hi, hj, Option.bind_some, h1, h2, Bool.or_eq_true, decide_eq_true_eq] at this
  simpa using this
 ·have := k3 i hi
  rw [ho] at this
  simp only [Bool.and_eq_true, Option.isNone_iff_eq_none] at this
  refine ⟨this.1, ?_⟩
  rcases hd : o.dst with _ | d
  ·rw [hd] at this; simp at this
  ·rw [hd] at this
   exact ⟨d, rfl, by simpa using this.2⟩
 ·have := k4 i hi
  rw [List.any_eq_true] at this
  obtain ⟨j, hj, h⟩ := this
  rw [List.mem_range] at hj
  simp only [Bool.and_eq_true, decide_eq_true_eq] at h
  obtain ⟨h1, h2⟩ := h
  rcases ho : ops[j]? with _ | oj
  ·rw [ho] at h2; simp at h2
  ·rw [ho] at h2
   simp only [Array.any_eq_true'] at h2
   obtain ⟨e, he, h3⟩ := h2
   simp only [Bool.and_eq_true, decide_eq_true_eq] at h3
   exact ⟨j, oj, h1, by omega, ho, e, he, h3.1, h3.2⟩
 ·have := k5 i (Array.getElem?_eq_some_iff.1 ho).1
  rw [ho] at this
  simp only [Array.all_eq_true'] at this
  have := this e he
  simpa [hb] using this
 ·have hs := step i hi o ho a w hS (fun k hk => ?_) (fun t ht => ?_)
  ·refine Oper.wp_mono (fun a' w' h => ?_) hs
   obtain ⟨u, h1, h2, h3⟩ := h
   exact ⟨u, h1, hS.trans (h2.mono hS.size), h2, h3⟩
  ·unfold depsOf at hk
   simp only [List.contains_iff_mem, List.mem_filterMap] at hk
   obtain ⟨e, he, hek⟩ := hk
   split at hek
   ·rename_i hb
    injection hek with hek
    subst hek
    have hbk := k5 i (Array.getElem?_eq_some_iff.1 ho).1
    rw [ho] at hbk
    simp only [Array.all_eq_true'] at hbk
    have hlt := hbk e (by simpa using he)
    have hlt : e.on < i := by simpa [hb] using hlt
    obtain ⟨oj, hoj⟩ : ∃ oj, ops[e.on]? = some oj := ⟨ops[e.on]'(by omega), Array.getElem?_eq_getElem (by omega)⟩
    unfold valAt
    rw [hoj]
    exact hdep e (by simpa using he) hb oj hoj
   ·cases hek
  ·refine hout t (fun j oj hoj hdj => ?_)
   have : t ∈ dstsOf ops := by
    unfold dstsOf
    rw [List.mem_filterMap]
    exact ⟨oj, by simpa using Array.mem_of_getElem? hoj, hdj⟩
   rw [← List.contains_iff_mem] at this
   rw [ht] at this; cases this
theorem ob_val {o : Oper} {a : Act} {w : World} {p : World → Value → Prop} (u : Value) (hv : (execOp a.eval o).run P w = .ok (.value u) w) (hp : p w u) :
  o.wp P a w (fun a' w' => ∃ u, a' = a.put o.dst u ∧ Below w.heap.size w w' ∧ p w' u) Q := by
 unfold Oper.wp
 rw [hv]
 exact ⟨u, rfl, Below.refl _ _, hp⟩
theorem ob_new {o : Oper} {a : Act} {w : World} {p : World → Value → Prop} (t : TypeId) (z : Array Value) (u : Nat → Value) (hz : (execOp a.eval o).run P w = .ok (.value (u w.heap.size)) (w.alloc (.cells z t)))
  (hp : ∀ k w', w.heap.size ≤ k → w'.heap[k]? = some (.cells z t) → k < w'.heap.size → p w' (u k)) :
  o.wp P a w (fun a' w' => ∃ u, a' = a.put o.dst u ∧ Below w.heap.size w w' ∧ p w' u) Q := by
 unfold Oper.wp
 rw [hz]
 exact ⟨_, rfl, Below.allocS (Below.refl _ _) _, hp _ _ (Nat.le_refl _) (heap_alloc_new w _) (by simp)⟩
theorem ob_call {o : Oper} {a : Act} {w : World} {p : World → Value → Prop} {f : FuncId} {args : Array Value} (he : (execOp a.eval o).run P w = .ok (.enter f args) w)
  (hc : Calls P f args w fun e w' => ∃ u, e = .returned u ∧ Below w.heap.size w w' ∧ p w' u) :
  o.wp P a w (fun a' w' => ∃ u, a' = a.put o.dst u ∧ Below w.heap.size w w' ∧ p w' u) Q := by
 unfold Oper.wp
 rw [he, Oper.upon_enter]
 refine hc.mono fun e w' h => ?_
 obtain ⟨u, rfl, h1, h2⟩ := h
 exact ⟨u, rfl, h1, h2⟩
end
end Go.Proofs.YthkpmlfaddlieaaGreatDoor
namespace Go.Proofs.YthkpmlfaddlieaaGreatDoor
open Go.RowKit Pl
def Typ (w : World) (b : Nat) (t : TypeId) : Prop := ∃ cs, w.heap[b]? = some (.cells cs t)
theorem Typ.new (w : World) (cs : Array Value) (t : TypeId) : Typ (w.alloc (.cells cs t)) w.heap.size t := ⟨cs, heap_alloc_new w _⟩
theorem Typ.new' {w : World} {cs : Array Value} {t : TypeId} {n : Nat} (h : n = w.heap.size) : Typ (w.alloc (.cells cs t)) n t := by subst h; exact Typ.new _ _ _
theorem Typ.lt {w : World} {b : Nat} {t : TypeId} (h : Typ w b t) : b < w.heap.size := by
 obtain ⟨cs, h⟩ := h
 rcases Nat.lt_or_ge b w.heap.size with hlt | hge
 ·exact hlt
 ·rw [Array.getElem?_eq_none hge] at h; cases h
theorem Typ.at {w w' : World} {b : Nat} {t : TypeId} (h : Typ w b t) (hb : w'.heap[b]? = w.heap[b]?) : Typ w' b t := by
 obtain ⟨cs, h⟩ := h
 exact ⟨cs, hb.trans h⟩
theorem Typ.keep {W w : World} {b : Nat} {t : TypeId} (h : Typ W b t) (hb : Below W.heap.size W w) : Typ w b t := h.at (hb.block b h.lt)
theorem Typ.mod {W w : World} {b : Nat} {t : TypeId} {l : List Nat} (h : Typ W b t) (hm : Mod l W w) (hn : b ∉ l) : Typ w b t := h.at (hm.block b h.lt hn)
theorem Typ.set {w : World} {b : Nat} {t : TypeId} (h : Typ w b t) (o : Nat) (v : Value) : Typ (w.setCell ⟨b, o, none⟩ v) b t := by
 obtain ⟨cs, h⟩ := h
 exact ⟨_, heap_setCell h⟩
theorem Typ.cells {b : Nat} {t : TypeId} : ∀ {w : World} (h : Typ w b t) (o : Nat) (vs : List Value), Typ (w.setCells b o vs) b t
 | _, h, _, [] => h
 | _, h, o, v :: r => by
  unfold World.setCells
  exact Typ.cells (h.set o v) (o + 1) r
theorem Typ.foreign {w : World} {b p : Nat} {t : TypeId} (h : Typ w b t) (ht : t ≠ 109) (hp : b ≠ p) : Foreign w p b := by
 obtain ⟨cs, h⟩ := h
 exact ⟨hp, cs, t, _, h, ht⟩
section
variable {P : Program} {T : TypeId} {n : Nat} {ops : Array Oper} {rest : List Oper} {op : Oper} {a : Act} {w : World} {Q : Exit → Act → World → Prop}
theorem wpList_rowStoreT (hT : RowT P T n) (hgd : op.guard = none) (hd : op.dst = none) (x y : Operand) (ho : op.op = .store T x y) {b : Nat} (hx : a.eval x = .pointer (some ⟨b, 0, none⟩)) {vs : List Value} (hy : a.eval y = .agg vs.toArray) (hl : vs.length = n) (h1 : ∀ v ∈ vs, v.oneCell' = true)
  {us : List Value} (hlu : us.length = n) (hB : Blk w b us.toArray) {t : TypeId} (htp : Typ w b t)
  (h : ∀ w', Blk w' b vs.toArray → Typ w' b t → Mod [b] w w' → wpList P ops Q rest a w') : wpList P ops Q (op :: rest) a w := by
 obtain ⟨_, h3⟩ := hT
 have ht : w.there b 0 vs.length := fun j hj => by
  rw [Nat.zero_add, hB.cell, hB.froz]
  simp; omega
 refine wpList_store_mid hgd T x y ho b 0 _ hx hy (by simpa using ht) (by simp [hl, h3]) (all_oneCell_toArray h1) ?_
 rw [hd]
 refine h _ ⟨fun o => ?_, fun o => by rw [World.frozen?_setCells]; exact hB.froz o, ?_⟩ (htp.cells _ _) (Mod.setCellsL b _ 0 w)
 ·by_cases ho : o < vs.length
  ·have := World.cell?_setCells_in b vs 0 w (fun i hi => (ht i hi).1) o ho
   rw [Nat.zero_add] at this
   simp only [List.getElem?_toArray]
   rw [List.getElem?_eq_getElem ho]
   exact this
  ·rw [World.cell?_setCells_out b _ 0 w _ (fun _ _ => .inr (by simp at ho ⊢; omega)), hB.cell]
   simp at ho ⊢
   rw [List.getElem?_eq_none (by omega), List.getElem?_eq_none (by omega)]
 ·exact Nat.lt_of_lt_of_le hB.lt (Mod.setCellsL b _ 0 w).size
end
section
variable {P : Program} {T : TypeId} {n : Nat} {op : Oper} {a : Act} {w : World} {K : Act → World → Prop} {Q : Exit → Act → World → Prop}
theorem wp_rowST (hT : RowT P T n) (x y : Operand) (ho : op.op = .store T x y) {b : Nat} (hx : a.eval x = .pointer (some ⟨b, 0, none⟩)) {vs : List Value} (hy : a.eval y = .agg vs.toArray) (hl : vs.length = n) (h1 : ∀ v ∈ vs, v.oneCell' = true)
  {us : List Value} (hlu : us.length = n) (hB : Blk w b us.toArray) {t : TypeId} (htp : Typ w b t)
  (h : ∀ w', Blk w' b vs.toArray → Typ w' b t → Mod [b] w w' → K (a.put op.dst undef) w') : op.wp P a w K Q := by
 obtain ⟨_, h3⟩ := hT
 have ht : w.there b 0 vs.length := fun j hj => by
  rw [Nat.zero_add, hB.cell, hB.froz]
  simp; omega
 refine wp_store_mid T x y ho b 0 _ hx hy (by simpa using ht) (by simp [hl, h3]) (all_oneCell_toArray h1) ?_
 refine h _ ⟨fun o => ?_, fun o => by rw [World.frozen?_setCells]; exact hB.froz o, ?_⟩ (htp.cells _ _) (Mod.setCellsL b _ 0 w)
 ·by_cases ho : o < vs.length
  ·have := World.cell?_setCells_in b vs 0 w (fun i hi => (ht i hi).1) o ho
   rw [Nat.zero_add] at this
   simp only [List.getElem?_toArray]
   rw [List.getElem?_eq_getElem ho]
   exact this
  ·rw [World.cell?_setCells_out b _ 0 w _ (fun _ _ => .inr (by simp at ho ⊢; omega)), hB.cell]
   simp at ho ⊢
   rw [List.getElem?_eq_none (by omega), List.getElem?_eq_none (by omega)]
 ·exact Nat.lt_of_lt_of_le hB.lt (Mod.setCellsL b _ 0 w).size
end
def pmBlk (B : Nat) (t : TypeId) (z : Array Value) : Pm := ⟨fun w v => ∃ k : Nat, v = .pointer (some ⟨k, 0, none⟩) ∧ B ≤ k ∧ Blk w k z ∧ Typ w k t, fun w w' v h hb => by
 obtain ⟨k, h1, h2, h3, h4⟩ := h
 exact ⟨k, h1, h2, h3.keep hb, h4.keep hb⟩⟩
theorem SRow.orf {w w' : World} {b p : Nat} {v : Value} {l : List Bs} (h : SRow w b v l) (hm : OrF p w w') (hp : p < b) : SRow w' b v l := by
 refine h.kept (fun k hk => hm.block k ?_)
 have hb := h.own k hk
 rcases h.2 with ⟨h1, _⟩ | ⟨g, cap, cur, hv, _, hg, _⟩
 ·rw [h1] at hk; cases hk
 ·rw [hv] at hk; cases hk
  exact ⟨by omega, cur, _, _, hg, by decide⟩
theorem MRow.orf {w w' : World} {b p : Nat} {v : Value} {l : List (Bs × Int)} (h : MRow w b v l) (hm : OrF p w w') (hp : p < b) : MRow w' b v l := by
 refine ⟨h.1, ?_⟩
 rcases h.2 with h1 | ⟨g, cap, cur, hv, h2, hg, h3⟩
 ·exact .inl h1
 ·exact .inr ⟨g, cap, cur, hv, h2, (hm.block g ⟨by omega, cur, _, _, hg, by decide⟩).trans hg, h3⟩
theorem Typ.ne {w : World} {a b : Nat} {s t : TypeId} (h : Typ w a s) (k : Typ w b t) (hn : s ≠ t) : a ≠ b := by
 rintro rfl
 obtain ⟨c, h⟩ := h
 obtain ⟨d, k⟩ := k
 rw [h] at k
 injection k with k
 injection k with _ k
 exact hn k
theorem SRow.modT {w w' : World} {b k : Nat} {v : Value} {l : List Bs} {t : TypeId} (h : SRow w b v l) (hm : Mod [k] w w') (ht : Typ w k t) (hn : t ≠ 9) : SRow w' b v l := by
 refine ⟨h.1, ?_⟩
 rcases h.2 with h1 | ⟨g, cap, cur, hv, h2, hg, h3⟩
 ·exact .inl h1
 ·have hgt : Typ w g 9 := ⟨cur, hg⟩
  exact .inr ⟨g, cap, cur, hv, h2, (hm.block g hgt.lt (by simpa using hgt.ne ht (fun e => hn e.symm))).trans hg, h3⟩
theorem MRow.modT {w w' : World} {b k : Nat} {v : Value} {l : List (Bs × Int)} {t : TypeId} (h : MRow w b v l) (hm : Mod [k] w w') (ht : Typ w k t) (hn : t ≠ 77) : MRow w' b v l := by
 refine ⟨h.1, ?_⟩
 rcases h.2 with h1 | ⟨g, cap, cur, hv, h2, hg, h3⟩
 ·exact .inl h1
 ·have hgt : Typ w g 77 := ⟨cur, hg⟩
  exact .inr ⟨g, cap, cur, hv, h2, (hm.block g hgt.lt (by simpa using hgt.ne ht (fun e => hn e.symm))).trans hg, h3⟩
end Go.Proofs.YthkpmlfaddlieaaGreatDoor
